/- The interpreter's equations in the form that simp walks by: one equation for each construct,told apart by what has been computed already. -/
import Derived.Test.YtdkbhidfiplncaaAbsLim
namespace Go.Abs
set_option linter.unusedVariables false
set_option linter.unusedSimpArgs false

theorem xFM : ∀ (scr : List Nat) (F : List AV) (i : Nat),(xBs scr F)[i]? = if i ∈ scr then (F[i]?).map (fun _ => AV.any) else F[i]?
  | [],F,i => by simp [xBs]
  | j :: scr,F,i => by
    have := xFM scr (F.set j .any) i
    simp only [xBs,List.foldl_cons] at this ⊢
    rw [this]
    by_cases h : i = j
    · subst h
      simp only [List.getElem?_set_self',List.mem_cons,true_or,if_true]
      cases F[i]? <;> simp
    · have h' : ¬ j = i := fun e => h e.symm
      simp [List.getElem?_set,h,h']

theorem xNs (scr : List Nat) (F : List AV) : xBs scr (xBs scr F) = xBs scr F := by
  apply List.ext_getElem?
  intro i
  rw [xFM,xFM]
  split
  · cases F[i]? <;> rfl
  · rfl

section
variable {prog : Nat → Option AFunc}

theorem xRd (prog : Nat → Option AFunc) (n : Nat) : Tends (fix prog n) (fun _ => lim prog) :=
  ⟨fun f a v h => .all fun _ => xGq ((xFo prog n).pcall f a v h),fun f a H v h => .all fun _ => xGq ((xFo prog n).icall f a H v h),fun scr b s v h => .all fun _ => xGq ((xFo prog n).loop scr b s v h)⟩

theorem Ev.const {p : Prop} (h : Ev fun _ => p) : p := let ⟨n,hn⟩ := h; hn n (Nat.le_refl n)

theorem xRe {α : Type} {a b : Option α} (h1 : ∀ v,a = some v → b = some v) (h2 : ∀ v,b = some v → a = some v) : a = b := by
  cases a with
  | some v => exact (h1 v rfl).symm
  | none =>
    cases b with
    | none => rfl
    | some v => exact h2 v rfl

theorem xAF {f : Nat} {fn : AFunc} (hf : prog f = some fn) (args : List AV) : (lim prog).pcall f args = xBr (lim prog) fn args := by
  refine xRe (fun v h => ?_) (fun v h => xMv hf h)
  obtain ⟨n,hn⟩ := xDQ (p := fun m => (fix prog m).pcall f args) h
  have h1 : (xEH prog (fix prog n)).pcall f args = some v := hn (n + 1) (by omega)
  have h2 := (xC5 (xRd prog n) prog).pcall f args v h1 |>.const
  simp only [xEH,hf] at h2
  exact h2

theorem xHF (f : AV) (args : List AV) (H : xAv) : (lim prog).icall f args H = xES prog (lim prog) f args H := by
  refine xRe (fun v h => ?_) (fun v h => xMw h)
  obtain ⟨n,hn⟩ := xDQ (p := fun m => (fix prog m).icall f args H) h
  have h1 : (xEH prog (fix prog n)).icall f args H = some v := hn (n + 1) (by omega)
  exact (xC5 (xRd prog n) prog).icall f args H v h1 |>.const

theorem xGm (scr : List Nat) (b : ACode) (s : St) : (lim prog).loop scr b s = xJc (lim prog) scr b s := by
  refine xRe (fun v h => ?_) (fun v h => xOR h)
  obtain ⟨n,hn⟩ := xDQ (p := fun m => (fix prog m).loop scr b s) h
  have h1 : (xEH prog (fix prog n)).loop scr b s = some v := hn (n + 1) (by omega)
  exact (xC5 (xRd prog n) prog).loop scr b s v h1 |>.const

theorem xAG {f : Nat} {fn : AFunc} (hf : prog f = some fn) (caps args : List AV) (H : xAv) : (lim prog).icall (.func f caps) args H = xBN (lim prog) fn (args ++ caps) H := by
  rw [xHF]
  simp only [xES,hf]

theorem xVk (l : Nat) (args : List AV) (H : xAv) : (lim prog).icall (.yield l) args H = xG3 (lim prog) l args H := by
  rw [xHF]
  rfl

theorem xGa (scr : List Nat) (b : ACode) (F : List AV) (H : xAv) : (lim prog).loop scr b ⟨F,H⟩ = (lim prog).loop scr b ⟨xBs scr F,H⟩ := by
  rw [xGm,xGm]
  unfold xJc
  simp only [xNs]

def xB9 (R : Rec) (scr : List Nat) (b : ACode) : Option (AExit × St) → Option (AExit × St)
  | some (.normal,s) => R.loop scr b ⟨xBs scr s.F,s.H⟩
  | some (e,s) => some (e,⟨xBs scr s.F,s.H⟩)
  | none => none

theorem xAI (scr : List Nat) (b : ACode) (F : List AV) (H : xAv) (h : xBs scr F = F) : (lim prog).loop scr b ⟨F,H⟩ = xB9 (lim prog) scr b (run (lim prog) b ⟨F,H⟩) := by
  rw [xGm]
  unfold xJc xB9
  simp only [h]
  split
  · rename_i s' hs
    rw [hs]
    exact xGa scr b s'.F s'.H
  · rename_i e s' hne hs
    rw [hs]
    cases e with
    | normal => exact (hne rfl).elim
    | exit i => rfl
    | ret => rfl
  · rename_i hs
    rw [hs]

theorem xA7 (scr : List Nat) (b : ACode) (F : List AV) (H : xAv) : run (lim prog) (.loop scr b) ⟨F,H⟩ = (lim prog).loop scr b ⟨xBs scr F,H⟩ := xGa scr b F H
end

section
variable {R : Rec} {F : List AV} {H : xAv} {s : St}

def xTF (R : Rec) (b : ACode) : Option (AExit × St) → Option (AExit × St)
  | some (.normal,s) => run R b s
  | r => r
theorem xAq (a b : ACode) : run R (.seq a b) s = xTF R b (run R a s) := by
  simp only [run,xTF]
  split <;> simp_all
theorem xAd (b : ACode) (s : St) : xTF R b (some (.normal,s)) = run R b s := rfl
theorem xA6 (b : ACode) (i : Nat) (s : St) : xTF R b (some (.exit i,s)) = some (.exit i,s) := rfl
theorem xBb (b : ACode) (s : St) : xTF R b (some (.ret,s)) = some (.ret,s) := rfl
theorem xY4 (b : ACode) : xTF R b none = none := rfl
theorem yAE (b : ACode) {c : Prop} [Decidable c] (x y : Option (AExit × St)) : xTF R b (if c then x else y) = if c then xTF R b x else xTF R b y := by split <;> rfl

def xWi (R : Rec) (a b : ACode) (s : St) : AV → Option (AExit × St)
  | .bool t => if t = true then run R a s else run R b s
  | _ => none
theorem xAp (c : Arg) (a b : ACode) (F : List AV) (H : xAv) : run R (.cond c a b) ⟨F,H⟩ = xWi R a b ⟨F,H⟩ (opv F c) := by
  simp only [run,xWi]
  split <;> simp_all
theorem xAl (a b : ACode) (t : Bool) : xWi R a b s (.bool t) = if t = true then run R a s else run R b s := rfl

def xGH (id : Nat) : Option (AExit × St) → Option (AExit × St)
  | some (.exit i,s) => if i = id then some (.normal,s) else some (.exit i,s)
  | r => r
theorem xAs (id : Nat) (b : ACode) : run R (.block id b) s = xGH id (run R b s) := by
  simp only [run,xGH]
  split <;> simp_all
theorem xAR (id i : Nat) (s : St) : xGH id (some (.exit i,s)) = if i = id then some (.normal,s) else some (.exit i,s) := rfl
theorem xAt (id : Nat) (s : St) : xGH id (some (.normal,s)) = some (.normal,s) := rfl
theorem xA8 (id : Nat) (s : St) : xGH id (some (.ret,s)) = some (.ret,s) := rfl
theorem xWj (id : Nat) : xGH id none = none := rfl
theorem xYd (id : Nat) {c : Prop} [Decidable c] (x y : Option (AExit × St)) : xGH id (if c then x else y) = if c then xGH id x else xGH id y := by split <;> rfl

theorem xAy (scr : List Nat) (b : ACode) (F : List AV) (H : xAv) : xB9 R scr b (some (.normal,⟨F,H⟩)) = R.loop scr b ⟨xBs scr F,H⟩ := rfl
theorem xAX (scr : List Nat) (b : ACode) (i : Nat) (F : List AV) (H : xAv) : xB9 R scr b (some (.exit i,⟨F,H⟩)) = some (.exit i,⟨xBs scr F,H⟩) := rfl
theorem xBK (scr : List Nat) (b : ACode) (F : List AV) (H : xAv) : xB9 R scr b (some (.ret,⟨F,H⟩)) = some (.ret,⟨xBs scr F,H⟩) := rfl
theorem xY5 (scr : List Nat) (b : ACode) {c : Prop} [Decidable c] (x y : Option (AExit × St)) : xB9 R scr b (if c then x else y) = if c then xB9 R scr b x else xB9 R scr b y := by split <;> rfl

def xTa : Option St → Option (AExit × St)
  | some s => some (.normal,s)
  | none => none
theorem xAj (s : St) : xTa (some s) = some (.normal,s) := rfl
theorem xY6 : xTa none = none := rfl
theorem yAF {c : Prop} [Decidable c] (x y : Option St) : xTa (if c then x else y) = if c then xTa x else xTa y := by split <;> rfl
theorem xAf (ops : List AOper) : run R (.region ops) s = xTa (xBO R ops s) := by
  simp only [run,xTa]
  cases xBO R ops s <;> rfl
theorem xAx : run R .skip s = some (.normal,s) := rfl
theorem xRf : run R .label s = some (.normal,s) := rfl
theorem xBm (i : Nat) : run R (.exit i) s = some (.exit i,s) := rfl
theorem xA0 : run R .ret s = some (.ret,s) := rfl
theorem xRg (b : ACode) : run R (.scope b) s = run R b s := rfl
theorem xY7 : run R .stuck s = none := rfl

def xWk (R : Rec) (rest : List AOper) : Option St → Option St
  | some s => xBO R rest s
  | none => none
theorem xAg : xBO R [] s = some s := rfl
theorem xAc (o : AOper) (rest : List AOper) : xBO R (o :: rest) s = xWk R rest (xBU R o s) := by
  simp only [xBO,xWk]
  cases xBU R o s <;> rfl
theorem xAi (rest : List AOper) (s : St) : xWk R rest (some s) = xBO R rest s := rfl
theorem xY8 (rest : List AOper) : xWk R rest none = none := rfl
theorem yAG (rest : List AOper) {c : Prop} [Decidable c] (x y : Option St) : xWk R rest (if c then x else y) = if c then xWk R rest x else xWk R rest y := by split <;> rfl

def xRh (F : List AV) (d : Option Nat) : Option (AV × xAv) → Option St
  | some (v,H) => some ⟨putA F d v,H⟩
  | none => none
theorem xAr (d : Nat) (v : AV) : xRh F (some d) (some (v,H)) = some ⟨F.set d v,H⟩ := rfl
theorem xBq (v : AV) : xRh F none (some (v,H)) = some ⟨F,H⟩ := rfl
theorem xY9 (d : Option Nat) : xRh F d none = none := rfl
theorem yAH (d : Option Nat) {c : Prop} [Decidable c] (x y : Option (AV × xAv)) : xRh F d (if c then x else y) = if c then xRh F d x else xRh F d y := by split <;> rfl
theorem xAk (d : Option Nat) (op : AOp) : xBU R ⟨d,op,none⟩ ⟨F,H⟩ = xRh F d (xAn R F H op) := by
  simp only [xBU,xDz,xRh]
  cases xAn R F H op <;> rfl
def xOM (R : Rec) (d : Option Nat) (op : AOp) (w : Bool) (F : List AV) (H : xAv) : AV → Option St
  | .bool b => if b = w then xRh F d (xAn R F H op) else some ⟨putA F d (.tup []),H⟩
  | .any => none
  | _ => some ⟨putA F d (.tup []),H⟩
theorem xAK (d : Option Nat) (op : AOp) (t : Nat) (w : Bool) : xBU R ⟨d,op,some (t,w)⟩ ⟨F,H⟩ = xOM R d op w F H (F.getD t .any) := by
  simp only [xBU,xDz,xOM]
  cases F.getD t .any with
  | bool b =>
    cases b <;> cases w <;> simp [xRh] <;> cases xAn R F H op <;> rfl
  | _ => rfl
theorem xAA (d : Option Nat) (op : AOp) (w b : Bool) : xOM R d op w F H (.bool b) = if b = w then xRh F d (xAn R F H op) else some ⟨putA F d (.tup []),H⟩ := rfl
theorem xJV (d : Option Nat) (op : AOp) (w : Bool) (vs : List AV) : xOM R d op w F H (.tup vs) = some ⟨putA F d (.tup []),H⟩ := rfl
theorem xCc (d : Nat) (v : AV) : putA F (some d) v = F.set d v := rfl
theorem yBR (v : AV) : putA F none v = F := rfl

def xNt (R : Rec) (m : Nat) (ops : List AOper) : Option St → Option (AExit × St)
  | some s => xTa (xBO R (ops.drop m) (xCf (ops.take m) s))
  | none => none
theorem xBt (m : Nat) (ops : List AOper) : run R (.draw m ops) s = xNt R m ops (xCB R (ops.take m) s) := by
  simp only [run,xNt]
  cases xCB R (ops.take m) s with
  | none => rfl
  | some s1 =>
    simp only [xTa]
    cases xBO R (ops.drop m) (xCf (ops.take m) s1) <;> rfl
theorem xBc (m : Nat) (ops : List AOper) (s : St) : xNt R m ops (some s) = xTa (xBO R (ops.drop m) (xCf (ops.take m) s)) := rfl
theorem xYe (m : Nat) (ops : List AOper) : xNt R m ops none = none := rfl
theorem xZa (m : Nat) (ops : List AOper) {c : Prop} [Decidable c] (x y : Option St) : xNt R m ops (if c then x else y) = if c then xNt R m ops x else xNt R m ops y := by split <;> rfl

def xEg (ls : List (Nat × Nat × Nat × Nat)) : Option St → Option (AExit × St)
  | some s => if ls.all (apart s.F) = true then some (.normal,s) else none
  | none => none
def xIC (R : Rec) (ls : List (Nat × Nat × Nat × Nat)) (m : Nat) (ops : List AOper) : Option St → Option (AExit × St)
  | some s => xEg ls (xBO R (ops.drop m) (xCf (ops.take m) s))
  | none => none
theorem xZb (ls : List (Nat × Nat × Nat × Nat)) (m : Nat) (ops : List AOper) : run R (.drawl ls m ops) s = xIC R ls m ops (xCB R (ops.take m) s) := by
  simp only [run,xIC]
  cases xCB R (ops.take m) s with
  | none => rfl
  | some s1 =>
    simp only [xEg]
    cases xBO R (ops.drop m) (xCf (ops.take m) s1) <;> rfl
theorem xWl (ls : List (Nat × Nat × Nat × Nat)) (m : Nat) (ops : List AOper) (s : St) : xIC R ls m ops (some s) = xEg ls (xBO R (ops.drop m) (xCf (ops.take m) s)) := rfl
theorem xWm (ls : List (Nat × Nat × Nat × Nat)) (m : Nat) (ops : List AOper) : xIC R ls m ops none = none := rfl
theorem xYf (ls : List (Nat × Nat × Nat × Nat)) (m : Nat) (ops : List AOper) {c : Prop} [Decidable c] (x y : Option St) : xIC R ls m ops (if c then x else y) = if c then xIC R ls m ops x else xIC R ls m ops y := by split <;> rfl
theorem xEU (ls : List (Nat × Nat × Nat × Nat)) (s : St) : xEg ls (some s) = if ls.all (apart s.F) = true then some (.normal,s) else none := rfl
theorem xWn (ls : List (Nat × Nat × Nat × Nat)) : xEg ls none = none := rfl
theorem xYg (ls : List (Nat × Nat × Nat × Nat)) {c : Prop} [Decidable c] (x y : Option St) : xEg ls (if c then x else y) = if c then xEg ls x else xEg ls y := by split <;> rfl

def xNu (R : Rec) (rest : List AOper) : Option St → Option St
  | some s => xCB R rest s
  | none => none
theorem xA2 : xCB R [] s = some s := rfl
theorem xAU (o : AOper) (rest : List AOper) : xCB R (o :: rest) s = xNu R rest (xB5 R o s) := by
  simp only [xCB,xNu]
  cases xB5 R o s <;> rfl
theorem xBd (rest : List AOper) (s : St) : xNu R rest (some s) = xCB R rest s := rfl
theorem xYh (rest : List AOper) : xNu R rest none = none := rfl
theorem xZc (rest : List AOper) {c : Prop} [Decidable c] (x y : Option St) : xNu R rest (if c then x else y) = if c then xNu R rest x else xNu R rest y := by split <;> rfl

def xID (F : List AV) (d : Option Nat) (H : xAv) : Option (AV × xAv) → Option St
  | some (v,_) => some ⟨putA F d v,H⟩
  | none => none
theorem xBp (d : Nat) (v : AV) (H' : xAv) : xID F (some d) H (some (v,H')) = some ⟨F.set d v,H⟩ := rfl
theorem yAI (v : AV) (H' : xAv) : xID F none H (some (v,H')) = some ⟨F,H⟩ := rfl
theorem xYi (d : Option Nat) : xID F d H none = none := rfl
theorem xZd (d : Option Nat) {c : Prop} [Decidable c] (x y : Option (AV × xAv)) : xID F d H (if c then x else y) = if c then xID F d H x else xID F d H y := by split <;> rfl

def xB3 (R : Rec) (F : List AV) (H : xAv) (op : AOp) : Option (AV × xAv) := (xBD R F H op).map fun v => (v,H)
theorem xA5 (d : Option Nat) (op : AOp) : xB5 R ⟨d,op,none⟩ ⟨F,H⟩ = xID F d H (xB3 R F H op) := by
  simp only [xB5,xDz,xID,xB3]
  cases xBD R F H op <;> rfl
def xKr (R : Rec) (d : Option Nat) (op : AOp) (w : Bool) (F : List AV) (H : xAv) : AV → Option St
  | .bool b => if b = w then xID F d H (xB3 R F H op) else some ⟨putA F d (.tup []),H⟩
  | .any => none
  | _ => some ⟨putA F d (.tup []),H⟩
theorem xBC (d : Option Nat) (op : AOp) (t : Nat) (w : Bool) : xB5 R ⟨d,op,some (t,w)⟩ ⟨F,H⟩ = xKr R d op w F H (F.getD t .any) := by
  simp only [xB5,xDz,xKr]
  cases F.getD t .any with
  | bool b =>
    cases b <;> cases w <;> simp [xID,xB3] <;> cases xBD R F H op <;> rfl
  | _ => rfl
theorem xBu (d : Option Nat) (op : AOp) (w b : Bool) : xKr R d op w F H (.bool b) = if b = w then xID F d H (xB3 R F H op) else some ⟨putA F d (.tup []),H⟩ := rfl
theorem xIE (d : Option Nat) (op : AOp) (w : Bool) (vs : List AV) : xKr R d op w F H (.tup vs) = some ⟨putA F d (.tup []),H⟩ := rfl

def xD4 (H : xAv) : Option AV → Option (AV × xAv)
  | some v => some (v,H)
  | none => none
theorem xAm (v : AV) : xD4 H (some v) = some (v,H) := rfl
theorem xZe : xD4 H none = none := rfl
theorem yAJ {c : Prop} [Decidable c] (x y : Option AV) : xD4 H (if c then x else y) = if c then xD4 H x else xD4 H y := by split <;> rfl

theorem xAz (x : Arg) : xAn R F H (.mov x) = some (opv F x,H) := rfl
def xWo : AV → AV → AV → Option AV
  | .bool t,a,b => some (if t = true then a else b)
  | _,_,_ => none
theorem xAL (t : Bool) (a b : AV) : xWo (.bool t) a b = some (if t = true then a else b) := rfl
theorem xA9 (c a b : Arg) : xAn R F H (.pick c a b) = xD4 H (xWo (opv F c) (opv F a) (opv F b)) := by
  simp only [xAn,xWo,xD4]
  split <;> simp_all
theorem xBv (x : Arg) : xAn R F H (.box x) = if (opv F x).cells.all AV.isCell = true then some (.ptr H.length 0,H ++ [.cells false false (opv F x).cells]) else none := rfl
theorem xCh (z : List AV) (parts : List (Nat × Nat × Arg)) : xAn R F H (.build z parts) =
    if parts.all (fun p => (opv F p.2.2).cells.length == p.2.1) = true then xD4 H ((xCm z (parts.map fun p => (p.1,(opv F p.2.2).cells))).map AV.agg) else none := by
  simp only [xAn,xD4]
  split
  · cases xCm z (parts.map fun p => (p.1,(opv F p.2.2).cells)) <;> rfl
  · rfl
def yBS (fz z : Bool) (n es : Nat) (H : xAv) : Option (List AV) → Option (AV × xAv)
  | some cs => xFi fz z n es cs H
  | none => none
theorem xBX (fz z : Bool) (n es : Nat) (cs : List AV) : yBS fz z n es H (some cs) = xFi fz z n es cs H := rfl
theorem xC8 (z : Bool) (n es : Nat) (cs : List AV) : xFi false z n es cs H = some (.own z H.length 0 n es,H ++ [.cells false z cs]) := rfl
def slK (z : Bool) (n : Nat) : Option (List AV) → Option AV
  | some cs => some (.sl z n cs)
  | none => none
theorem xCi (z : Bool) (n : Nat) (cs : List AV) : slK z n (some cs) = some (.sl z n cs) := rfl
theorem xCn (z : Bool) (n es : Nat) (cs : List AV) : xFi true z n es cs H = if (cs.flatMap (bor xBP H)).isEmpty = true then xD4 H (slK z n (cs.mapM (frz xBP H))) else none := by
  simp only [xFi,xD4,slK]
  split
  · rename_i h
    cases cs.mapM (frz xBP H) <;> simp_all
  · simp_all
theorem xBY (fz : Bool) (z : List AV) (es n : Nat) (parts : List (Nat × Arg)) : xAn R F H (.bslice fz z es n parts) =
    if parts.all (fun p => (opv F p.2).cells.length == es) = true then yBS fz false n es H (xCm (xEE z n) (parts.map fun p => (p.1 * es,(opv F p.2).cells))) else none := by
  simp only [xAn,yBS]
  split
  · cases xCm (xEE z n) (parts.map fun p => (p.1 * es,(opv F p.2).cells)) <;> rfl
  · rfl
def xTG (g : Bool) : Option (List AV) → Option AV
  | some cs => mkv g cs
  | none => none
theorem xAM (v : AV) : xTG false (some [v]) = some v := rfl
theorem xBz (cs : List AV) : xTG true (some cs) = some (.agg cs) := rfl
theorem xAH (g : Bool) (n : Nat) (p : Arg) : xAn R F H (.load g n p) = xD4 H (xTG g (rd H (opv F p) n)) := by
  simp only [xAn,xD4,xTG]
  cases rd H (opv F p) n with
  | none => rfl
  | some cs => simp only; cases mkv g cs <;> rfl
def rdK (off n : Nat) : Option Blk → Option (List AV)
  | some (.cells _ _ cs) => if off + n ≤ cs.length then some ((cs.drop off).take n) else none
  | _ => none
theorem xA1 (id off n : Nat) : rd H (.ptr id off) n = rdK off n H[id]? := by
  simp only [rd,rdK]
  rfl
theorem xAu {off n : Nat} {fz z : Bool} {cs : List AV} (h : off + n ≤ cs.length) : rdK off n (some (.cells fz z cs)) = some ((cs.drop off).take n) := if_pos h
theorem xBn {off n : Nat} {cs : List AV} (h : off + n ≤ cs.length) : rd H (.vptr cs off) n = some ((cs.drop off).take n) := if_pos h

def wrK (H : xAv) (id off : Nat) (vs : List AV) : Option Blk → Option xAv
  | some (.cells false z cs) => if off + vs.length ≤ cs.length ∧ vs.all AV.isCell = true then some (H.set id (.cells false z (xBl cs off vs))) else none
  | _ => none
theorem xBJ (id off : Nat) (vs : List AV) : wr H (.ptr id off) vs = wrK H id off vs H[id]? := by
  simp only [wr,wrK]
  rfl
theorem xAZ {id off : Nat} {vs : List AV} {z : Bool} {cs : List AV} (h : off + vs.length ≤ cs.length) (h2 : vs.all AV.isCell = true) : wrK H id off vs (some (.cells false z cs)) = some (H.set id (.cells false z (xBl cs off vs))) := if_pos ⟨h,h2⟩
def xRi : Option xAv → Option (AV × xAv)
  | some H => some (.tup [],H)
  | none => none
theorem xAN (H : xAv) : xRi (some H) = some (.tup [],H) := rfl
theorem xBe (n : Nat) (p v : Arg) : xAn R F H (.store n p v) = if (opv F v).cells.length = n then xRi (wr H (opv F p) (opv F v).cells) else none := by
  simp only [xAn,xRi]
  split
  · cases wr H (opv F p) (opv F v).cells <;> rfl
  · rfl
def xZf : AV → Option AV
  | .ptr id off => some (.ptr id off)
  | .vptr cs off => some (.vptr cs off)
  | .func f caps => some (.func f caps)
  | .yield l => some (.yield l)
  | _ => none
theorem yAK (id off : Nat) : xZf (.ptr id off) = some (.ptr id off) := rfl
theorem xZg (cs : List AV) (off : Nat) : xZf (.vptr cs off) = some (.vptr cs off) := rfl
theorem xZh (f : Nat) (cs : List AV) : xZf (.func f cs) = some (.func f cs) := rfl
theorem xYj (l : Nat) : xZf (.yield l) = some (.yield l) := rfl
theorem xZi (x : Arg) : xAn R F H (.nilchk x) = xD4 H (xZf (opv F x)) := by
  simp only [xAn]
  cases opv F x <;> rfl
theorem xAB (op : BinOp) (x y : Arg) : xAn R F H (.bin op x y) = xD4 H (xE6 op (opv F x) (opv F y)) := by
  simp only [xAn,xD4]
  cases xE6 op (opv F x) (opv F y) <;> rfl

section
variable (k : IntKind) (a b : Int)
theorem xBf : xE6 .add (.int k a) (.int k b) = some (.int k (k.wrap (a + b))) := by simp [xE6]
theorem xNv : xE6 .sub (.int k a) (.int k b) = some (.int k (k.wrap (a - b))) := by simp [xE6]
theorem yBT : xE6 .mul (.int k a) (.int k b) = some (.int k (k.wrap (a * b))) := by simp [xE6]
theorem yBU (h : b ≠ 0) : xE6 .quo (.int k a) (.int k b) = some (.int k (k.wrap (a.tdiv b))) := by simp [xE6,h]
theorem yBV (h : b ≠ 0) : xE6 .rem (.int k a) (.int k b) = some (.int k (a.tmod b)) := by simp [xE6,h]
theorem xC2 : xE6 .and (.int k a) (.int k b) = some (.int k (xFh .and k a b)) := by simp [xE6]
theorem xMh : xE6 .or (.int k a) (.int k b) = some (.int k (xFh .or k a b)) := by simp [xE6]
theorem yBW : xE6 .xor (.int k a) (.int k b) = some (.int k (xFh .xor k a b)) := by simp [xE6]
theorem xYk : xE6 .andNot (.int k a) (.int k b) = some (.int k (xFh .andNot k a b)) := by simp [xE6]
theorem xCv (k' : IntKind) (h : 0 ≤ b) : xE6 .shl (.int k a) (.int k' b) = some (.int k (k.wrap (a * 2 ^ (min b.toNat k.bits)))) := by simp only [xE6]; rw [if_neg (by omega)]
theorem xDW (k' : IntKind) (h : 0 ≤ b) : xE6 .shr (.int k a) (.int k' b) = some (.int k (a.fdiv (2 ^ (min b.toNat k.bits)))) := by simp only [xE6]; rw [if_neg (by omega)]
theorem xC3 : xE6 .eql (.int k a) (.int k b) = some (.bool (decide (a = b))) := by simp [xE6]; rfl
theorem xBy : xE6 .neq (.int k a) (.int k b) = some (.bool (!decide (a = b))) := by simp [xE6]; rfl
theorem xAw : xE6 .lss (.int k a) (.int k b) = some (.bool (decide (a < b))) := by simp [xE6]
theorem xDF : xE6 .leq (.int k a) (.int k b) = some (.bool (decide (a ≤ b))) := by simp [xE6]
theorem xBS : xE6 .gtr (.int k a) (.int k b) = some (.bool (decide (b < a))) := by simp [xE6]
theorem xCj : xE6 .geq (.int k a) (.int k b) = some (.bool (decide (b ≤ a))) := by simp [xE6]
end

def yBX (neg : Bool) : AV → AV → Option AV
  | .bool a,.bool b => some (.bool (if neg = true then a != b else a == b))
  | _,_ => none
theorem yDC (a b : Bool) : yBX false (.bool a) (.bool b) = some (.bool (decide (a = b))) := by cases a <;> cases b <;> rfl
theorem xVl (a b : Bool) : yBX true (.bool a) (.bool b) = some (.bool (!decide (a = b))) := by cases a <;> cases b <;> rfl
theorem xVm (neg : Bool) (x y : Arg) : xAn R F H (.beq neg x y) = xD4 H (yBX neg (opv F x) (opv F y)) := by
  simp only [xAn]
  cases opv F x <;> cases opv F y <;> rfl
def xMi (neg : Bool) : AV → Option AV
  | .sl z _ _ => some (.bool (z != neg))
  | .own z _ _ _ _ => some (.bool (z != neg))
  | _ => none
theorem xYl (z : Bool) (n : Nat) (cs : List AV) : xMi false (.sl z n cs) = some (.bool z) := by cases z <;> rfl
theorem xYm (z : Bool) (n : Nat) (cs : List AV) : xMi true (.sl z n cs) = some (.bool (!z)) := by cases z <;> rfl
theorem xWp (z : Bool) (id off n es : Nat) : xMi false (.own z id off n es) = some (.bool z) := by cases z <;> rfl
theorem xWq (z : Bool) (id off n es : Nat) : xMi true (.own z id off n es) = some (.bool (!z)) := by cases z <;> rfl
theorem yAL (neg : Bool) (x : Arg) : xAn R F H (.isnil neg x) = xD4 H (xMi neg (opv F x)) := by
  simp only [xAn]
  cases opv F x <;> rfl
theorem xGn (op : UnOp) (x : Arg) : xAn R F H (.un op x) = xD4 H (unA op (opv F x)) := by
  simp only [xAn,xD4]
  cases unA op (opv F x) <;> rfl
theorem xEh (b : Bool) : unA .not (.bool b) = some (.bool !b) := rfl
theorem yDD (k : IntKind) (n : Int) : unA .neg (.int k n) = some (.int k (k.wrap (0 - n))) := rfl
theorem yDE (k : IntKind) (n : Int) : unA .xor (.int k n) = some (.int k (xFh .xor k (if k.signed then -1 else k.max) n)) := rfl
def xZj (k : IntKind) : AV → Option AV
  | .int _ n => some (.int k (k.wrap n))
  | _ => none
theorem xCa (k k' : IntKind) (n : Int) : xZj k (.int k' n) = some (.int k (k.wrap n)) := rfl
theorem xCL (k : IntKind) (x : Arg) : xAn R F H (.conv k x) = xD4 H (xZj k (opv F x)) := by
  simp only [xAn]
  cases opv F x <;> rfl
theorem xIF (f : Nat) (caps : List Arg) : xAn R F H (.mkfunc f caps) = some (.func f (caps.map (opv F)),H) := rfl
def yDF (fz : Bool) (z : List AV) (bytes : Nat) (H : xAv) : AV → AV → Option (AV × xAv)
  | .int _ l,.int _ c => if 0 ≤ l ∧ l ≤ c ∧ c * bytes ≤ xCT ∧ c ≤ xCT ∧ z.all AV.isCell = true then xFi fz false l.toNat z.length (xEE z l.toNat) H else none
  | _,_ => none
theorem xON (fz : Bool) (z : List AV) (bytes : Nat) (k k' : IntKind) {l c : Int} (h1 : 0 ≤ l) (h2 : l ≤ c) (h3 : c * bytes ≤ 140737488355328) (h4 : c ≤ 140737488355328) (h5 : z.all AV.isCell = true) : yDF fz z bytes H (.int k l) (.int k' c) = xFi fz false l.toNat z.length (xEE z l.toNat) H := if_pos ⟨h1,h2,h3,h4,h5⟩
theorem xJW (fz : Bool) (z : List AV) (bytes : Nat) (l c : Arg) : xAn R F H (.mkslice fz z bytes l c) = yDF fz z bytes H (opv F l) (opv F c) := by
  simp only [xAn]
  cases opv F l <;> cases opv F c <;> rfl

def xWr (es : Nat) (H : xAv) (x : AV) : Option (Nat × Nat) → Option AV
  | none => none
  | some (l,h) => match x with
    | .sl z _ cs => some (.sl z (h - l) ((cs.drop (l * es)).take ((h - l) * es)))
    | .own z id off _ _ => some (.own z id (off + l * es) (h - l) es)
    | _ => none
def xOO (es : Nat) (H : xAv) (lo hi mx : Option AV) : AV → Option AV
  | .sl z n cs => if cs.length = n * es then xWr es H (.sl z n cs) (xCO n lo hi mx) else none
  | .own z id off n es' => if es' = es then xWr es H (.own z id off n es') (xCO n lo hi mx) else none
  | _ => none
theorem xTH (es : Nat) (x : Arg) (lo hi mx : Option Arg) : xAn R F H (.slice es x lo hi mx) = xD4 H (xOO es H (lo.map (opv F)) (hi.map (opv F)) (mx.map (opv F)) (opv F x)) := by
  simp only [xAn,xD4,xOO,xWr]
  cases opv F x with
  | sl z n cs =>
    simp only
    split
    · cases xCO n (lo.map (opv F)) (hi.map (opv F)) (mx.map (opv F)) <;> rfl
    · rfl
  | own z id off n es' =>
    simp only
    split
    · cases xCO n (lo.map (opv F)) (hi.map (opv F)) (mx.map (opv F)) <;> rfl
    · rfl
  | _ => rfl
theorem xRj {es n : Nat} {z : Bool} {cs : List AV} (lo hi mx : Option AV) (h : cs.length = n * es) : xOO es H lo hi mx (.sl z n cs) = xWr es H (.sl z n cs) (xCO n lo hi mx) := if_pos h
theorem xYn {es n id off : Nat} {z : Bool} (lo hi mx : Option AV) : xOO es H lo hi mx (.own z id off n es) = xWr es H (.own z id off n es) (xCO n lo hi mx) := if_pos rfl
theorem xWs (es : Nat) (z : Bool) (n : Nat) (cs : List AV) (l h : Nat) : xWr es H (.sl z n cs) (some (l,h)) = some (.sl z (h - l) ((cs.drop (l * es)).take ((h - l) * es))) := rfl
theorem yAM (es : Nat) (z : Bool) (id off n es' : Nat) (l h : Nat) : xWr es H (.own z id off n es') (some (l,h)) = some (.own z id (off + l * es) (h - l) es) := rfl
theorem xZk (n : Nat) : xCO n none none none = some (0,n) := by simp [xCO]
theorem xZl {n : Nat} {k : IntKind} {l : Int} (h0 : 0 ≤ l) (h : l ≤ n) : xCO n (some (.int k l)) none none = some (l.toNat,n) := by
  simp only [xCO,xCI,if_pos h0]
  rw [if_pos ⟨by omega,by omega⟩]
theorem xRk {n : Nat} {k : IntKind} {m : Int} (h0 : 0 ≤ m) (h : m ≤ n) : xCO n none (some (.int k m)) none = some (0,m.toNat) := by
  simp only [xCO,xCI,if_pos h0]
  rw [if_pos ⟨by omega,by omega⟩]
theorem xZm {n : Nat} {k k' : IntKind} {l m : Int} (h0 : 0 ≤ l) (h1 : l ≤ m) (h : m ≤ n) : xCO n (some (.int k l)) (some (.int k' m)) none = some (l.toNat,m.toNat) := by
  have h2 : 0 ≤ m := by omega
  simp only [xCO,xCI,if_pos h0,if_pos h2]
  rw [if_pos ⟨by omega,by omega⟩]
def xRl (o : Nat) : AV → Option AV
  | .ptr id off => some (.ptr id (off + o))
  | .vptr cs off => some (.vptr cs (off + o))
  | _ => none
theorem xAC (o id off : Nat) : xRl o (.ptr id off) = some (.ptr id (off + o)) := rfl
theorem xNw (o : Nat) (cs : List AV) (off : Nat) : xRl o (.vptr cs off) = some (.vptr cs (off + o)) := rfl
theorem xAQ (o : Nat) (x : Arg) : xAn R F H (.faddr o x) = xD4 H (xRl o (opv F x)) := by
  simp only [xAn]
  cases opv F x <;> rfl
def xRm (g : Bool) (off n : Nat) : AV → Option AV
  | .agg cs => if off + n ≤ cs.length then mkv g ((cs.drop off).take n) else none
  | _ => none
theorem xYo {g : Bool} {off n : Nat} {cs : List AV} (h : off + n ≤ cs.length) : xRm g off n (.agg cs) = mkv g ((cs.drop off).take n) := if_pos h
theorem xRn (v : AV) : mkv false [v] = some v := rfl
theorem xFm (cs : List AV) : mkv true cs = some (.agg cs) := rfl
theorem yAN (g : Bool) (off n : Nat) (x : Arg) : xAn R F H (.field g off n x) = xD4 H (xRm g off n (opv F x)) := by
  simp only [xAn]
  cases opv F x with
  | agg cs =>
    simp only [xRm,xD4]
    split
    · cases mkv g ((cs.drop off).take n) <;> rfl
    · rfl
  | _ => rfl
def xJX (es : Nat) : AV → AV → Option AV
  | .sl _ n cs,.int _ i => if 0 ≤ i ∧ i.toNat < n then some (.vptr cs (i.toNat * es)) else none
  | .own _ id off n es',.int _ i => if 0 ≤ i ∧ i.toNat < n ∧ es' = es then some (.ptr id (off + i.toNat * es)) else none
  | _,_ => none
theorem xAY {es n : Nat} {z : Bool} {cs : List AV} {k : IntKind} {i : Int} (h0 : 0 ≤ i) (h : i < n) : xJX es (.sl z n cs) (.int k i) = some (.vptr cs (i.toNat * es)) := if_pos ⟨h0,by omega⟩
theorem xBG {es n id off : Nat} {z : Bool} {k : IntKind} {i : Int} (h0 : 0 ≤ i) (h : i < n) : xJX es (.own z id off n es) (.int k i) = some (.ptr id (off + i.toNat * es)) := if_pos ⟨h0,by omega,rfl⟩
theorem xAW (es : Nat) (x i : Arg) : xAn R F H (.iaddr es x i) = xD4 H (xJX es (opv F x) (opv F i)) := by
  simp only [xAn]
  cases opv F x with
  | sl z n cs =>
    cases opv F i with
    | int k j =>
      simp only [xCI,xJX,xD4]
      by_cases h : 0 ≤ j
      · by_cases h2 : j.toNat < n <;> simp [h,h2]
      · simp [h]
    | _ => rfl
  | own z id off n es' =>
    cases opv F i with
    | int k j =>
      simp only [xCI,xJX,xD4]
      by_cases h : 0 ≤ j
      · by_cases h2 : j.toNat < n
        · by_cases h3 : es' = es <;> simp [h,h2,h3]
        · simp [h,h2]
      · simp [h]
    | _ => rfl
  | _ => cases opv F i <;> simp [xJX,xD4,xCI] <;> split <;> simp_all
def yBY (i : Nat) : AV → Option AV
  | .tup vs => vs[i]?
  | _ => none
theorem xGI (i : Nat) (vs : List AV) : yBY i (.tup vs) = vs[i]? := rfl
theorem xMj (i : Nat) (x : Arg) : xAn R F H (.ext i x) = xD4 H (yBY i (opv F x)) := by
  simp only [xAn]
  cases opv F x with
  | tup vs => simp only [yBY,xD4]; cases vs[i]? <;> rfl
  | _ => rfl
def yBZ : AV → Option AV
  | .sl _ n _ => some (.int .i64 n)
  | .own _ _ _ n _ => some (.int .i64 n)
  | _ => none
theorem xA4 (z : Bool) (n : Nat) (cs : List AV) : yBZ (.sl z n cs) = some (.int .i64 n) := rfl
theorem xBT (z : Bool) (id off n es : Nat) : yBZ (.own z id off n es) = some (.int .i64 n) := rfl
theorem xA3 (x : Arg) : xAn R F H (.len x) = xD4 H (yBZ (opv F x)) := by
  simp only [xAn]
  cases opv F x <;> rfl
theorem yDG (x : Arg) : xAn R F H (.cap x) = match opv F x with
  | .sl true _ _ => some (.int .i64 0,H)
  | _ => none := rfl
def yB0 (neg : Bool) (n : Nat) : AV → AV → Option AV
  | .agg cs,.agg ds => if cs.length = n then (xDY cs ds).map fun b => .bool (b != neg) else none
  | _,_ => none
theorem xTI {neg : Bool} {n : Nat} {cs ds : List AV} (h : cs.length = n) : yB0 neg n (.agg cs) (.agg ds) = (xDY cs ds).map fun b => .bool (b != neg) := if_pos h
theorem xZn (neg : Bool) (n : Nat) (x y : Arg) : xAn R F H (.aeq neg n x y) = xD4 H (yB0 neg n (opv F x) (opv F y)) := by
  simp only [xAn]
  cases opv F x with
  | agg cs => cases opv F y with
    | agg ds =>
      simp only [yB0,xD4]
      split
      · cases xDY cs ds <;> rfl
      · rfl
    | _ => rfl
  | _ => rfl

def xQf (fz : Bool) (es bytes : Nat) (H : xAv) (x : AV) : Option (Nat × List AV) → Option (AV × xAv)
  | none => none
  | some (m,ys) => match x with
    | .sl true _ _ => if m * bytes ≤ xCT ∧ m ≤ xCT then xFi fz (m == 0) m es ys H else none
    | .own z id off n es' => match H[id]? with
      | some (.cells false _ cs) => if off = 0 ∧ es' = es ∧ n * es ≤ cs.length ∧ (n + m) * bytes ≤ xCT ∧ n + m ≤ xCT then
          some (.own (z && m == 0) H.length 0 (n + m) es,H.set id .dead ++ [.cells false (z && m == 0) (cs.take (n * es) ++ ys)]) else none
      | _ => none
    | _ => none
theorem xBZ (fz : Bool) (es bytes : Nat) (x y : Arg) : xAn R F H (.append fz es bytes x y) = xQf fz es bytes H (opv F x) (src H es (opv F y)) := by
  simp only [xAn,xQf]
  cases src H es (opv F y) <;> rfl
theorem xEq {fz : Bool} {es bytes n m : Nat} {cs ys : List AV} (h : m * bytes ≤ 140737488355328) (h2 : m ≤ 140737488355328) : xQf fz es bytes H (.sl true n cs) (some (m,ys)) = xFi fz (m == 0) m es ys H := if_pos ⟨h,h2⟩
def xWt (es bytes n m : Nat) (H : xAv) (z : Bool) (id : Nat) (ys : List AV) : Option Blk → Option (AV × xAv)
  | some (.cells false _ cs) => if n * es ≤ cs.length ∧ (n + m) * bytes ≤ xCT ∧ n + m ≤ xCT then
      some (.own (z && m == 0) H.length 0 (n + m) es,H.set id .dead ++ [.cells false (z && m == 0) (cs.take (n * es) ++ ys)]) else none
  | _ => none
theorem xFN (fz : Bool) (es bytes n m id : Nat) (z : Bool) (ys : List AV) : xQf fz es bytes H (.own z id 0 n es) (some (m,ys)) = xWt es bytes n m H z id ys H[id]? := by
  simp only [xQf,xWt]
  split
  · rename_i z' cs hb
    by_cases h : n * es ≤ cs.length ∧ (n + m) * bytes ≤ xCT ∧ n + m ≤ xCT
    · rw [if_pos h,if_pos ⟨trivial,trivial,h⟩]
    · rw [if_neg h,if_neg (fun g => h g.2.2)]
  · rename_i hne
    cases hb : H[id]? with
    | none => rfl
    | some b => cases b with
      | cells fz z cs => cases fz with
        | false => exact (hne _ _ hb).elim
        | true => rfl
      | _ => rfl
theorem xEV {es bytes n m id : Nat} {z z' : Bool} {ys cs : List AV} (h : n * es ≤ cs.length) (h2 : (n + m) * bytes ≤ 140737488355328) (h3 : n + m ≤ 140737488355328) : xWt es bytes n m H z id ys (some (.cells false z' cs)) =
    some (.own (z && m == 0) H.length 0 (n + m) es,H.set id .dead ++ [.cells false (z && m == 0) (cs.take (n * es) ++ ys)]) := if_pos ⟨h,h2,h3⟩
theorem xDs {es n : Nat} {z : Bool} {cs : List AV} (h : cs.length = n * es) : src H es (.sl z n cs) = some (n,cs) := if_pos h
def yB1 (off n es : Nat) : Option Blk → Option (Nat × List AV)
  | some (.cells _ _ cs) => if off + n * es ≤ cs.length then some (n,(cs.drop off).take (n * es)) else none
  | _ => none
theorem xKs (es n id off : Nat) (z : Bool) : src H es (.own z id off n es) = yB1 off n es H[id]? := by
  simp only [src,yB1]
  cases H[id]? with
  | none => rfl
  | some b => cases b <;> simp
theorem xFO {es n off : Nat} {fz z : Bool} {cs : List AV} (h : off + n * es ≤ cs.length) : yB1 off n es (some (.cells fz z cs)) = some (n,(cs.drop off).take (n * es)) := if_pos h
def xMk (z : List AV) (bytes : Nat) (H : xAv) : AV → AV → Option (AV × xAv)
  | .sl true _ _,.int _ m => if 0 ≤ m ∧ m.toNat * bytes ≤ xCT ∧ m.toNat ≤ xCT ∧ z.all AV.isCell = true then xFi false (m.toNat == 0) m.toNat z.length (xEE z m.toNat) H else none
  | _,_ => none
theorem xYp (z : List AV) (bytes : Nat) (x n : Arg) : xAn R F H (.appendz z bytes x n) = xMk z bytes H (opv F x) (opv F n) := by
  simp only [xAn]
  cases hn : opv F n with
  | int k m =>
    simp only [xCI]
    by_cases h : 0 ≤ m
    · cases hx : opv F x with
      | sl zz nn cs => cases zz <;> simp [xMk,h]
      | _ => simp [xMk,h]
    · cases hx : opv F x with
      | sl zz nn cs => cases zz <;> simp [xMk,h]
      | _ => simp [xMk,h]
  | _ =>
    cases hx : opv F x with
    | sl zz nn cs => cases zz <;> simp [xMk,xCI]
    | _ => simp [xMk,xCI]
theorem xZo {z : List AV} {bytes n : Nat} {cs : List AV} {k : IntKind} {m : Int} (h0 : 0 ≤ m) (h1 : m.toNat * bytes ≤ 140737488355328) (h2 : m.toNat ≤ 140737488355328) (h3 : z.all AV.isCell = true) : xMk z bytes H (.sl true n cs) (.int k m) = xFi false (m.toNat == 0) m.toNat z.length (xEE z m.toNat) H := if_pos ⟨h0,h1,h2,h3⟩
def yB2 : AV → AV → Option AV
  | .int k a,.int _ b => some (.int k (max a b))
  | _,_ => none
def yB3 : AV → AV → Option AV
  | .int k a,.int _ b => some (.int k (min a b))
  | _,_ => none
theorem yAO (k k' : IntKind) (a b : Int) : yB2 (.int k a) (.int k' b) = some (.int k (max a b)) := rfl
theorem xTJ (k k' : IntKind) (a b : Int) : yB3 (.int k a) (.int k' b) = some (.int k (min a b)) := rfl
theorem yB4 (x y : Arg) : xAn R F H (.maxi x y) = xD4 H (yB2 (opv F x) (opv F y)) := by
  simp only [xAn]
  cases opv F x with
  | int k a => cases opv F y with
    | int k' b => simp only [yB2,xD4]; congr 3; split <;> omega
    | _ => rfl
  | _ => rfl
theorem xWu (x y : Arg) : xAn R F H (.mini x y) = xD4 H (yB3 (opv F x) (opv F y)) := by
  simp only [xAn]
  cases opv F x with
  | int k a => cases opv F y with
    | int k' b => simp only [yB3,xD4]; congr 3; split <;> omega
    | _ => rfl
  | _ => rfl

theorem yDH (z : List AV) : xEE z 0 = [] := rfl
theorem xDh (z : List AV) : xEE z 1 = z ++ ([]) := rfl
theorem xVn (z : List AV) : xEE z 2 = z ++ (z ++ ([])) := rfl
theorem yDI (z : List AV) : xEE z 3 = z ++ (z ++ (z ++ ([]))) := rfl
theorem yDJ (z : List AV) : xEE z 4 = z ++ (z ++ (z ++ (z ++ ([])))) := rfl
theorem yDK (z : List AV) : xEE z 5 = z ++ (z ++ (z ++ (z ++ (z ++ ([]))))) := rfl
theorem yDL (z : List AV) : xEE z 6 = z ++ (z ++ (z ++ (z ++ (z ++ (z ++ ([])))))) := rfl
theorem yDM (z : List AV) : xEE z 7 = z ++ (z ++ (z ++ (z ++ (z ++ (z ++ (z ++ ([]))))))) := rfl
theorem yDN (z : List AV) : xEE z 8 = z ++ (z ++ (z ++ (z ++ (z ++ (z ++ (z ++ (z ++ ([])))))))) := rfl
theorem yDO (z : List AV) : xEE z 9 = z ++ (z ++ (z ++ (z ++ (z ++ (z ++ (z ++ (z ++ (z ++ ([]))))))))) := rfl
theorem yB5 (z : List AV) : xEE z 10 = z ++ (z ++ (z ++ (z ++ (z ++ (z ++ (z ++ (z ++ (z ++ (z ++ ([])))))))))) := rfl
theorem yB6 (z : List AV) : xEE z 11 = z ++ (z ++ (z ++ (z ++ (z ++ (z ++ (z ++ (z ++ (z ++ (z ++ (z ++ ([]))))))))))) := rfl
theorem yB7 (z : List AV) : xEE z 12 = z ++ (z ++ (z ++ (z ++ (z ++ (z ++ (z ++ (z ++ (z ++ (z ++ (z ++ (z ++ ([])))))))))))) := rfl
theorem xBa (d : Nat) (k : IntKind) (n : Int) : frz d H (.int k n) = some (.int k n) := by cases d <;> rfl
theorem xCr (d : Nat) (b : Bool) : frz d H (.bool b) = some (.bool b) := by cases d <;> rfl
theorem yB8 (d : Nat) (b : ByteArray) : frz d H (.str b) = some (.str b) := by cases d <;> rfl
theorem yAP (d : Nat) : frz d H .nilp = some .nilp := by cases d <;> rfl
theorem yAQ (d : Nat) : frz d H .nilf = some .nilf := by cases d <;> rfl
theorem yB9 (d : Nat) : frz d H .any = some .any := by cases d <;> rfl
theorem yAR (d f : Nat) : frz d H (.func f []) = some (.func f []) := by cases d <;> rfl
theorem xB0 (d : Nat) (z : Bool) (n : Nat) (cs : List AV) : frz d H (.sl z n cs) = some (.sl z n cs) := by cases d <;> rfl
theorem xCo (d : Nat) (cs : List AV) : frz (d + 1) H (.agg cs) = (cs.mapM (frz d H)).map AV.agg := rfl
theorem xKt (d : Nat) (cs : List AV) : frz (d + 1) H (.tup cs) = (cs.mapM (frz d H)).map AV.tup := rfl
def yCa (d : Nat) (H : xAv) (z : Bool) (off n es : Nat) : Option Blk → Option AV
  | some (.cells _ _ cs) => if off + n * es ≤ cs.length then slK z n (((cs.drop off).take (n * es)).mapM (frz d H)) else none
  | _ => none
theorem xEz (d : Nat) (z : Bool) (id off n es : Nat) : frz (d + 1) H (.own z id off n es) = yCa d H z off n es H[id]? := by
  simp only [frz,yCa]
  cases H[id]? with
  | none => rfl
  | some b => cases b with
    | cells fz z' cs =>
      simp only
      split
      · cases ((cs.drop off).take (n * es)).mapM (frz d H) <;> rfl
      · rfl
    | _ => rfl
theorem xCW {d off n es : Nat} {z fz z' : Bool} {cs : List AV} (h : off + n * es ≤ cs.length) : yCa d H z off n es (some (.cells fz z' cs)) = slK z n (((cs.drop off).take (n * es)).mapM (frz d H)) := if_pos h

theorem xCp (d : Nat) (k : IntKind) (n : Int) : bor d H (.int k n) = [] := by cases d <;> rfl
theorem xKu (d : Nat) (b : Bool) : bor d H (.bool b) = [] := by cases d <;> rfl
theorem yCb (d : Nat) (b : ByteArray) : bor d H (.str b) = [] := by cases d <;> rfl
theorem yAS (d : Nat) : bor d H .nilp = [] := by cases d <;> rfl
theorem yAT (d : Nat) : bor d H .nilf = [] := by cases d <;> rfl
theorem yCc (d : Nat) : bor d H .any = [] := by cases d <;> rfl
theorem yAU (d f : Nat) (cs : List AV) : bor d H (.func f cs) = [] := by cases d <;> rfl
theorem yDP (ss : List Nat) (b : ACode) (s : St) : run R (.fz ss b) s = run R b ⟨s.F,xCE s.H (ss.flatMap fun i => bor xBP s.H (s.F.getD i .any))⟩ := rfl
def yCd (R : Rec) (i : Nat) (b : ACode) (s : St) (ids : List Nat) : Option AV → Option (AExit × St)
  | some v => run R b ⟨s.F.set i v,xCE s.H ids⟩
  | none => none
theorem xRo (i : Nat) (b : ACode) (s : St) : run R (.fzs i b) s = yCd R i b s (bor xBP s.H (s.F.getD i .any)) (frz xBP s.H (s.F.getD i .any)) := by
  simp only [run,yCd]
  cases frz xBP s.H (s.F.getD i .any) <;> rfl
theorem xMl (i : Nat) (b : ACode) (s : St) (ids : List Nat) (v : AV) : yCd R i b s ids (some v) = run R b ⟨s.F.set i v,xCE s.H ids⟩ := rfl
def yCe (d : Nat) (H : xAv) (off : Nat) : Option Blk → Option AV
  | some (.cells _ _ cs) => (cs.mapM (frz d H)).map fun cs' => .vptr cs' off
  | _ => none
theorem xWv (d i o : Nat) : frz (d + 1) H (.ptr i o) = yCe d H o H[i]? := by
  simp only [frz,yCe]
  cases H[i]? with
  | none => rfl
  | some b => cases b <;> rfl
theorem xPx (d : Nat) (o : Nat) (fz z : Bool) (cs : List AV) : yCe d H o (some (.cells fz z cs)) = (cs.mapM (frz d H)).map fun cs' => .vptr cs' o := rfl
theorem yAV (d : Nat) (cs : List AV) (o : Nat) : frz d H (.vptr cs o) = some (.vptr cs o) := by cases d <;> rfl
def xWw (d : Nat) (H : xAv) : Option Blk → List Nat
  | some (.cells _ _ cs) => cs.flatMap (bor d H)
  | _ => []
theorem xWx (d i o : Nat) : bor (d + 1) H (.ptr i o) = i :: xWw d H H[i]? := by
  simp only [bor,xWw]
  cases H[i]? with
  | none => rfl
  | some b => cases b <;> rfl
theorem xNx (d : Nat) (fz z : Bool) (cs : List AV) : xWw d H (some (.cells fz z cs)) = cs.flatMap (bor d H) := rfl
theorem yAW (d : Nat) (cs : List AV) (o : Nat) : bor d H (.vptr cs o) = [] := by cases d <;> rfl
def xWy : Option Blk → Bool
  | some (.cells true _ _) => true
  | _ => false
theorem xPy (i : Nat) : xHs H i = xWy H[i]? := by
  simp only [xHs,xWy]
  cases H[i]? with
  | none => rfl
  | some b => cases b with
    | cells fz z cs => cases fz <;> rfl
    | _ => rfl
theorem yCf (z : Bool) (cs : List AV) : xWy (some (.cells true z cs)) = true := rfl
theorem xDP (d : Nat) (z : Bool) (n : Nat) (cs : List AV) : bor d H (.sl z n cs) = [] := by cases d <;> rfl
theorem xEi (d : Nat) (cs : List AV) : bor (d + 1) H (.agg cs) = cs.flatMap (bor d H) := rfl
theorem yCg (d : Nat) (cs : List AV) : bor (d + 1) H (.tup cs) = cs.flatMap (bor d H) := rfl
def yCh (d : Nat) (H : xAv) (off n es : Nat) : Option Blk → List Nat
  | some (.cells _ _ cs) => ((cs.drop off).take (n * es)).flatMap (bor d H)
  | _ => []
theorem xWz (d : Nat) (z : Bool) (id off n es : Nat) : bor (d + 1) H (.own z id off n es) = id :: yCh d H off n es H[id]? := by
  simp only [bor,yCh]
  cases H[id]? with
  | none => rfl
  | some b => cases b <;> rfl
theorem xPz (d off n es : Nat) (fz z : Bool) (cs : List AV) : yCh d H off n es (some (.cells fz z cs)) = ((cs.drop off).take (n * es)).flatMap (bor d H) := rfl

def xVo (args : List AV) (H : xAv) : Option AV → Option (AV × xAv)
  | some r => some (r,if xDx r = true then H else xCE H (args.flatMap (bor xBP H)))
  | none => none
theorem xBg (args : List AV) (r : AV) : xVo args H (some r) = some (r,if xDx r = true then H else xCE H (args.flatMap (bor xBP H))) := rfl
theorem xZp (args : List AV) : xVo args H none = none := rfl
theorem yAX (args : List AV) {c : Prop} [Decidable c] (x y : Option AV) : xVo args H (if c then x else y) = if c then xVo args H x else xVo args H y := by split <;> rfl
def yCi (R : Rec) (f : Nat) (args : List AV) (H : xAv) : Option (List AV) → Option (AV × xAv)
  | some args' => xVo args H (R.pcall f args')
  | none => none
theorem xBh (f : Nat) (args args' : List AV) : yCi R f args H (some args') = xVo args H (R.pcall f args') := rfl
theorem xBi (f : Nat) (args : List AV) : xCZ R f args H = yCi R f args H (args.mapM (frz xBP H)) := by
  simp only [xCZ,yCi]
  cases args.mapM (frz xBP H) with
  | none => rfl
  | some args' => simp only [xVo]; cases R.pcall f args' <;> rfl
theorem xBH (f : Nat) (args : List Arg) : xAn R F H (.call f args) = xCZ R f (args.map (opv F)) H := rfl
theorem xCd (f : Arg) (args : List Arg) : xAn R F H (.icall f args) = R.icall (opv F f) (args.map (opv F)) H := rfl
def xVp (R : Rec) (args : List AV) (H : xAv) : AV → Option (AV × xAv)
  | .func g caps => xCZ R g (args ++ caps) H
  | _ => none
theorem xWA (args : List AV) (g : Nat) (caps : List AV) : xVp R args H (.func g caps) = xCZ R g (args ++ caps) H := rfl
theorem yAY (f : Arg) (args : List Arg) : xAn R F H (.fcall f args) = xVp R (args.map (opv F)) H (opv F f) := by
  simp only [xAn]
  cases opv F f <;> rfl

def xGb (args : List AV) (H : xAv) : Option (AV × xAv) → Option (AV × xAv)
  | some (r,_) => if xDn r H args = true then some (r,H) else none
  | none => none
theorem xEW (args : List AV) (r : AV) (H' : xAv) : xGb args H (some (r,H')) = if xDn r H args = true then some (r,H) else none := rfl
theorem xWB (args : List AV) : xGb args H none = none := rfl
theorem xYq (args : List AV) {c : Prop} [Decidable c] (x y : Option (AV × xAv)) : xGb args H (if c then x else y) = if c then xGb args H x else xGb args H y := by split <;> rfl
theorem xNy (f : Nat) (args : List Arg) : xB3 R F H (.call f args) = xGb (args.map (opv F)) H (xCZ R f (args.map (opv F)) H) := by
  simp only [xB3,xBD,xGb]
  cases xCZ R f (args.map (opv F)) H with
  | none => rfl
  | some r => obtain ⟨r,H'⟩ := r; simp only; split <;> rfl
def xNz (R : Rec) (args : List AV) (H : xAv) : AV → Option (AV × xAv)
  | .func g caps => xGb (args ++ caps) H (xCZ R g (args ++ caps) H)
  | _ => none
theorem xMm (args : List AV) (g : Nat) (caps : List AV) : xNz R args H (.func g caps) = xGb (args ++ caps) H (xCZ R g (args ++ caps) H) := rfl
theorem xTK (f : Arg) (args : List Arg) : xB3 R F H (.fcall f args) = xNz R (args.map (opv F)) H (opv F f) := by
  simp only [xB3,xBD,xGb,xNz]
  cases opv F f with
  | func g caps =>
    simp only
    cases xCZ R g (args.map (opv F) ++ caps) H with
    | none => rfl
    | some r => obtain ⟨r,H'⟩ := r; simp only; split <;> rfl
  | _ => rfl
theorem yDQ (v : AV) : xB3 R F H (.box (.c v)) = if v.cells.all AV.isCell = true then some (.any,H) else none := by
  simp only [xB3,xBD]
  split <;> rfl
def xFa (H : xAv) : Option (AV × xAv) → Option (AV × xAv)
  | some (v,_) => some (v,H)
  | none => none
theorem xBj (v : AV) (H' : xAv) : xFa H (some (v,H')) = some (v,H) := rfl
theorem xZq : xFa H none = none := rfl
theorem yAZ {c : Prop} [Decidable c] (x y : Option (AV × xAv)) : xFa H (if c then x else y) = if c then xFa H x else xFa H y := by split <;> rfl
theorem xDy (op : AOp) (h : xBD R F H op = (xAn R F H op).map (·.1)) : xB3 R F H op = xFa H (xAn R F H op) := by
  simp only [xB3,h,xFa]
  cases xAn R F H op <;> rfl
theorem xB4 (x : Arg) : xB3 R F H (.mov x) = xFa H (xAn R F H (.mov x)) := xDy _ rfl
theorem xC4 (c a b : Arg) : xB3 R F H (.pick c a b) = xFa H (xAn R F H (.pick c a b)) := xDy _ rfl
theorem yA0 (z : List AV) (parts : List (Nat × Nat × Arg)) : xB3 R F H (.build z parts) = xFa H (xAn R F H (.build z parts)) := xDy _ rfl
theorem xZr (z : List AV) (es n : Nat) (parts : List (Nat × Arg)) : xB3 R F H (.bslice true z es n parts) = xFa H (xAn R F H (.bslice true z es n parts)) := xDy _ rfl
theorem xBE (g : Bool) (n : Nat) (p : Arg) : xB3 R F H (.load g n p) = xFa H (xAn R F H (.load g n p)) := xDy _ rfl
theorem xZs (x : Arg) : xB3 R F H (.nilchk x) = xFa H (xAn R F H (.nilchk x)) := xDy _ rfl
theorem xCY (op : BinOp) (x y : Arg) : xB3 R F H (.bin op x y) = xFa H (xAn R F H (.bin op x y)) := xDy _ rfl
theorem yDR (neg : Bool) (x y : Arg) : xB3 R F H (.beq neg x y) = xFa H (xAn R F H (.beq neg x y)) := xDy _ rfl
theorem yA1 (neg : Bool) (x : Arg) : xB3 R F H (.isnil neg x) = xFa H (xAn R F H (.isnil neg x)) := xDy _ rfl
theorem xZt (op : UnOp) (x : Arg) : xB3 R F H (.un op x) = xFa H (xAn R F H (.un op x)) := xDy _ rfl
theorem xDG (k : IntKind) (x : Arg) : xB3 R F H (.conv k x) = xFa H (xAn R F H (.conv k x)) := xDy _ rfl
theorem xZu (f : Nat) (caps : List Arg) : xB3 R F H (.mkfunc f caps) = xFa H (xAn R F H (.mkfunc f caps)) := xDy _ rfl
theorem xYr (z : List AV) (bytes : Nat) (l c : Arg) : xB3 R F H (.mkslice true z bytes l c) = xFa H (xAn R F H (.mkslice true z bytes l c)) := xDy _ rfl
theorem yA2 (es : Nat) (x : Arg) (lo hi mx : Option Arg) : xB3 R F H (.slice es x lo hi mx) = xFa H (xAn R F H (.slice es x lo hi mx)) := xDy _ rfl
theorem xCw (o : Nat) (x : Arg) : xB3 R F H (.faddr o x) = xFa H (xAn R F H (.faddr o x)) := xDy _ rfl
theorem yA3 (g : Bool) (off n : Nat) (x : Arg) : xB3 R F H (.field g off n x) = xFa H (xAn R F H (.field g off n x)) := xDy _ rfl
theorem xBL (es : Nat) (x i : Arg) : xB3 R F H (.iaddr es x i) = xFa H (xAn R F H (.iaddr es x i)) := xDy _ rfl
theorem yDS (i : Nat) (x : Arg) : xB3 R F H (.ext i x) = xFa H (xAn R F H (.ext i x)) := xDy _ rfl
theorem yDT (x : Arg) : xB3 R F H (.len x) = xFa H (xAn R F H (.len x)) := xDy _ rfl
theorem yDU (x : Arg) : xB3 R F H (.cap x) = xFa H (xAn R F H (.cap x)) := xDy _ rfl
theorem yDV (neg : Bool) (n : Nat) (x y : Arg) : xB3 R F H (.aeq neg n x y) = xFa H (xAn R F H (.aeq neg n x y)) := xDy _ rfl
theorem yCj (x y : Arg) : xB3 R F H (.maxi x y) = xFa H (xAn R F H (.maxi x y)) := xDy _ rfl
theorem yCk (x y : Arg) : xB3 R F H (.mini x y) = xFa H (xAn R F H (.mini x y)) := xDy _ rfl
def xWC (es bytes : Nat) (H : xAv) (x : AV) (o : Option (Nat × List AV)) : Option (AV × xAv) := match x with
  | .sl _ _ _ => xFa H (xQf true es bytes H x o)
  | _ => none
theorem yA4 (es bytes : Nat) (z : Bool) (n : Nat) (cs : List AV) (o : Option (Nat × List AV)) : xWC es bytes H (.sl z n cs) o = xFa H (xQf true es bytes H (.sl z n cs) o) := rfl
theorem xZv (es bytes : Nat) (x y : Arg) : xB3 R F H (.append true es bytes x y) = xWC es bytes H (opv F x) (src H es (opv F y)) := by
  simp only [xB3,xBD,xWC]
  cases h : opv F x with
  | sl z n cs =>
    simp only [xBZ,h,xFa]
    cases xQf true es bytes H (.sl z n cs) (src H es (opv F y)) <;> rfl
  | _ => rfl

def xPA (H : xAv) : Option AV → Option (AV × xAv)
  | some v => some (v,H)
  | none => none
theorem xAD (v : AV) : xPA H (some v) = some (v,H) := rfl
def xMn (rs : List ARes) : Option (AExit × St) → Option (AV × xAv)
  | some (.normal,s) => xPA s.H (xDd rs s)
  | some (.ret,s) => xPA s.H (xDd rs s)
  | _ => none
theorem xCx (rs : List ARes) (F : List AV) (H : xAv) : xMn rs (some (.normal,⟨F,H⟩)) = xPA H (xDd rs ⟨F,H⟩) := rfl
theorem xAP (rs : List ARes) (F : List AV) (H : xAv) : xMn rs (some (.ret,⟨F,H⟩)) = xPA H (xDd rs ⟨F,H⟩) := rfl
theorem xYs (rs : List ARes) : xMn rs none = none := rfl
theorem xZw (rs : List ARes) {c : Prop} [Decidable c] (x y : Option (AExit × St)) : xMn rs (if c then x else y) = if c then xMn rs x else xMn rs y := by split <;> rfl
def xCF : Nat → List AV
  | 0 => []
  | n + 1 => .tup [] :: xCF n
theorem xRp : ∀ n,List.replicate n (AV.tup []) = xCF n
  | 0 => rfl
  | n + 1 => by rw [List.replicate_succ,xRp n]; rfl
theorem xAT (n : Nat) (code : ACode) (rs : List ARes) (args : List AV) : xBN R ⟨n,code,rs⟩ args H = xMn rs (run R code ⟨args ++ xCF (n - args.length),H⟩) := by
  rw [← xRp]
  simp only [xBN,xMn,xM2,xPA]
  cases h : run R code ⟨args ++ List.replicate (n - args.length) (.tup []),H⟩ with
  | none => rfl
  | some r =>
    obtain ⟨e,s⟩ := r
    cases e with
    | exit i => rfl
    | _ => simp only; cases xDd rs s <;> rfl
def xIG : Option (AV × xAv) → Option AV
  | some (r,H') => frz xBP H' r
  | none => none
theorem xAS (r : AV) (H' : xAv) : xIG (some (r,H')) = frz xBP H' r := rfl
theorem xWD : xIG none = none := rfl
theorem xYt {c : Prop} [Decidable c] (x y : Option (AV × xAv)) : xIG (if c then x else y) = if c then xIG x else xIG y := by split <;> rfl
theorem xBA (fn : AFunc) (args : List AV) : xBr R fn args = xIG (xBN R fn args []) := by
  simp only [xBr,xIG]
  cases xBN R fn args [] <;> rfl
def xWE (g : Bool) : Option (List AV) → Option AV
  | some cs => mkv g cs
  | none => none
theorem xCz (g : Bool) (cs : List AV) : xWE g (some cs) = mkv g cs := rfl
theorem xBk (t : Nat) : xSa ⟨F,H⟩ (.tmp t) = some (F.getD t .any) := rfl
theorem xC9 (t : Nat) (g : Bool) (n : Nat) : xSa ⟨F,H⟩ (.cell t g n) = xWE g (rd H (F.getD t .any) n) := by
  simp only [xSa,xWE]
  cases rd H (F.getD t .any) n <;> rfl
theorem xDi : xDd [] s = some (.tup []) := rfl
theorem xAV (r : ARes) : xDd [r] s = xSa s r := rfl
def yCl (s : St) (rs : List ARes) : Option AV → Option (List AV)
  | some v => (xPX s rs).map (v :: ·)
  | none => none
theorem xDj (rs : List ARes) (v : AV) : yCl s rs (some v) = (xPX s rs).map (v :: ·) := rfl
theorem xDO : xPX s [] = some [] := rfl
theorem xDk (r : ARes) (rs : List ARes) : xPX s (r :: rs) = yCl s rs (xSa s r) := by
  simp only [xPX,yCl]
  cases xSa s r <;> rfl
theorem xDl (r r' : ARes) (rs : List ARes) : xDd (r :: r' :: rs) s = (xPX s (r :: r' :: rs)).map .tup := rfl

def xGJ (F : List AV) (l : Nat) : Option (AV × xAv) → Option (AExit × St)
  | some (_,H') => match H'[l]? with
    | some (.loop st pend _ _ _ _) => if st = 1 then none else some ((match pend with | none => .normal | some e => e),⟨F,H'.set l .dead⟩)
    | _ => none
  | none => none
def xRq (R : Rec) (F : List AV) (H : xAv) (ps : List Nat) (asg body : ACode) : AV → Option (AExit × St)
  | .func g caps => xGJ F H.length (R.icall (.func g caps) [.yield H.length] (H ++ [.loop 0 none F ps asg body]))
  | _ => none
theorem xZx (f : Arg) (ps : List Nat) (asg body : ACode) (F : List AV) (H : xAv) : run R (.range f ps asg body) ⟨F,H⟩ = xRq R F H ps asg body (opv F f) := by
  simp only [run]
  cases opv F f with
  | func g caps =>
    simp only [xRq,xGJ]
    cases R.icall (.func g caps) [.yield H.length] (H ++ [.loop 0 none F ps asg body]) with
    | none => rfl
    | some r =>
      obtain ⟨v,H'⟩ := r
      simp only
      cases H'[H.length]? with
      | none => rfl
      | some b => cases b <;> rfl
  | _ => rfl
theorem xWF (ps : List Nat) (asg body : ACode) (g : Nat) (caps : List AV) : xRq R F H ps asg body (.func g caps) = xGJ F H.length (R.icall (.func g caps) [.yield H.length] (H ++ [.loop 0 none F ps asg body])) := rfl

def xGK (l : Nat) (e : AExit) (H : xAv) : Option Blk → Option (AV × xAv)
  | some (.loop 1 _ F ps asg body) => some (match e with
    | .normal => (.bool true,H.set l (.loop 0 none F ps asg body))
    | e => (.bool false,H.set l (.loop 2 (some e) F ps asg body)))
  | _ => none
def xEj (l : Nat) : Option (AExit × St) → Option (AV × xAv)
  | some (e,s) => xGK l e s.H s.H[l]?
  | none => none
def xHU (R : Rec) (l : Nat) (body0 : ACode) (s : St) : Option Blk → Option (AV × xAv)
  | some (.loop 0 pend F ps asg body) => xEj l (run R body0 ⟨s.F,s.H.set l (.loop 1 pend F ps asg body)⟩)
  | _ => none
def xHV (R : Rec) (l : Nat) (body0 : ACode) : Option (AExit × St) → Option (AV × xAv)
  | some (.normal,s) => xHU R l body0 s s.H[l]?
  | _ => none
def yDW (R : Rec) (l : Nat) (args : List AV) (H : xAv) : Option Blk → Option (AV × xAv)
  | some (.loop 0 _ F ps asg body) => if args.length = ps.length ∧ asg.noRange = true ∧ body.noRange = true then xHV R l body (run R asg ⟨(ps.zip args).foldl (fun F (p,v) => F.set p v) F,H⟩) else none
  | _ => none
theorem xZy (l : Nat) (args : List AV) (H : xAv) (asg body : ACode) (F : List AV) (ps : List Nat) (pend : Option AExit) (hH : H[l]? = some (.loop 0 pend F ps asg body)) (h1 : args.length = ps.length) (h2 : asg.noRange = true) (h3 : body.noRange = true) :
    xG3 R l args H = xHV R l body (run R asg ⟨(ps.zip args).foldl (fun F (p,v) => F.set p v) F,H⟩) := by
  unfold xG3
  rw [hH]
  simp only
  rw [if_pos ⟨h1,h2,h3⟩]
  cases ha : run R asg ⟨(ps.zip args).foldl (fun F (p,v) => F.set p v) F,H⟩ with
  | none => rfl
  | some r =>
    obtain ⟨e,s1⟩ := r
    cases e with
    | normal =>
      simp only [xHV]
      cases hb : s1.H[l]? with
      | none => rfl
      | some b =>
        cases b with
        | loop st pend1 F1 ps1 asg1 body1 =>
          match st with
          | 0 =>
            simp only [xHU]
            cases hr : run R body ⟨s1.F,s1.H.set l (.loop 1 pend1 F1 ps1 asg1 body1)⟩ with
            | none => rfl
            | some r =>
              obtain ⟨e,s2⟩ := r
              simp only [xEj]
              cases hc : s2.H[l]? with
              | none => rfl
              | some b =>
                cases b with
                | loop st2 pend2 F2 ps2 asg2 body2 =>
                  match st2 with
                  | 0 => rfl
                  | 1 => rfl
                  | _ + 2 => rfl
                | _ => rfl
          | _ + 1 => rfl
        | _ => rfl
    | _ => rfl
theorem xRr (l : Nat) (body0 : ACode) (F : List AV) (H : xAv) : xHV R l body0 (some (.normal,⟨F,H⟩)) = xHU R l body0 ⟨F,H⟩ H[l]? := rfl
theorem xTL (l : Nat) (body0 : ACode) (F : List AV) (H : xAv) (pend : Option AExit) (F1 : List AV) (ps : List Nat) (asg body : ACode) : xHU R l body0 ⟨F,H⟩ (some (.loop 0 pend F1 ps asg body)) = xEj l (run R body0 ⟨F,H.set l (.loop 1 pend F1 ps asg body)⟩) := rfl
theorem xTb (l : Nat) (e : AExit) (F : List AV) (H : xAv) : xEj l (some (e,⟨F,H⟩)) = xGK l e H H[l]? := rfl
theorem xTM (l : Nat) {c : Prop} [Decidable c] (x y : Option (AExit × St)) : xEj l (if c then x else y) = if c then xEj l x else xEj l y := by split <;> rfl
theorem xRs (l : Nat) (H : xAv) (pend : Option AExit) (F : List AV) (ps : List Nat) (asg body : ACode) : xGK l .normal H (some (.loop 1 pend F ps asg body)) = some (.bool true,H.set l (.loop 0 none F ps asg body)) := rfl
theorem xTN (l i : Nat) (H : xAv) (pend : Option AExit) (F : List AV) (ps : List Nat) (asg body : ACode) : xGK l (.exit i) H (some (.loop 1 pend F ps asg body)) = some (.bool false,H.set l (.loop 2 (some (.exit i)) F ps asg body)) := rfl
theorem xVq (l : Nat) (H : xAv) (pend : Option AExit) (F : List AV) (ps : List Nat) (asg body : ACode) : xGK l .ret H (some (.loop 1 pend F ps asg body)) = some (.bool false,H.set l (.loop 2 (some .ret) F ps asg body)) := rfl
def xHW (F : List AV) (l : Nat) (H : xAv) : Option Blk → Option (AExit × St)
  | some (.loop st pend _ _ _ _) => if st = 1 then none else some ((match pend with | none => .normal | some e => e),⟨F,H.set l .dead⟩)
  | _ => none
theorem xTO (l : Nat) (v : AV) (H : xAv) : xGJ F l (some (v,H)) = xHW F l H H[l]? := by
  simp only [xGJ,xHW]
theorem xYu (l : Nat) (H : xAv) (F1 : List AV) (ps : List Nat) (asg body : ACode) : xHW F l H (some (.loop 0 none F1 ps asg body)) = some (.normal,⟨F,H.set l .dead⟩) := rfl
theorem xYv (l : Nat) (H : xAv) (e : AExit) (F1 : List AV) (ps : List Nat) (asg body : ACode) : xHW F l H (some (.loop 2 (some e) F1 ps asg body)) = some (e,⟨F,H.set l .dead⟩) := rfl
end
section
variable {R : Rec} {F : List AV} {H : xAv} {s : St}
def xRt : Option (AV × xAv) → Option (AV × List Blk)
  | some (r,H') => (xEF H' r).map fun (v,B) => (v,B.map (·.2))
  | none => none
theorem xGL (f : Nat) (args : List AV) : xD2 R f args = xRt (R.icall (.func f []) args []) := by
  unfold xD2 xRt
  cases R.icall (.func f []) args [] <;> rfl
theorem xGo (r : AV) (H' : xAv) : xRt (some (r,H')) = (xEF H' r).map fun (v,B) => (v,B.map (·.2)) := rfl
def ocK (H : xAv) (ids : List Nat) : Option (AV × List Blk) → Option (AV × xAv)
  | some (v,B) => some (xDZ H.length v,xCE H ids ++ B)
  | none => none
def xRu (R : Rec) (f : Nat) (H : xAv) (ids : List Nat) : Option (List AV) → Option (AV × xAv)
  | some args' => ocK H ids (xD2 R f args')
  | none => none
theorem xOP (f : Nat) (args : List Arg) : xAn R F H (.ocall f args) = xRu R f H ((args.map (opv F)).flatMap (bor xBP H)) ((args.map (opv F)).mapM (frz xBP H)) := by
  simp only [xAn,xRu]
  cases (args.map (opv F)).mapM (frz xBP H) with
  | none => rfl
  | some args' =>
    simp only [ocK]
    cases xD2 R f args' <;> rfl
theorem xIH (f : Nat) (ids : List Nat) (args' : List AV) : xRu R f H ids (some args') = ocK H ids (xD2 R f args') := rfl
theorem xOQ (ids : List Nat) (v : AV) (B : List Blk) : ocK H ids (some (v,B)) = some (xDZ H.length v,xCE H ids ++ B) := rfl

def yA5 (H : xAv) (ids : List Nat) : Option (AV × xAv) → Option (AV × xAv)
  | some (v,B) => some (xDZ H.length v,xCE H ids ++ B.map (xCU H.length))
  | none => none
def xNA (R : Rec) (f : Nat) (H : xAv) (ids : List Nat) : Option (List AV) → Option (AV × xAv)
  | some args' => yA5 H ids (xDD R f args')
  | none => none
theorem xMo (f : Nat) (args : List Arg) : xAn R F H (.ocallw f args) = xNA R f H ((args.map (opv F)).flatMap (bor xBP H)) ((args.map (opv F)).mapM (frz xBP H)) := by
  simp only [xAn,xNA]
  cases (args.map (opv F)).mapM (frz xBP H) with
  | none => rfl
  | some args' =>
    simp only [yA5]
    cases xDD R f args' <;> rfl
theorem xHG (f : Nat) (ids : List Nat) (args' : List AV) : xNA R f H ids (some args') = yA5 H ids (xDD R f args') := rfl
theorem xMp (ids : List Nat) (v : AV) (B : xAv) : yA5 H ids (some (v,B)) = some (xDZ H.length v,xCE H ids ++ B.map (xCU H.length)) := rfl
theorem xGM {f : Nat} {args : List AV} {v : AV} {B : xAv} (h : R.icall (.func f []) args [] = some (v,B)) (h1 : xQj v = true) : xDD R f args = some (v,B) := by
  unfold xDD
  rw [h]
  exact if_pos h1

def t1B (z : Bool) (id off n es : Nat) (B : List (Nat × Blk)) : Option Blk → Option (AV × List (Nat × Blk))
  | some (.cells false z' cs) => if cs.all xCA = true then some (.own z B.length off n es,B ++ [(id,.cells false z' cs)]) else none
  | _ => none
def t1I (z : Bool) (id off n es : Nat) (B : List (Nat × Blk)) (b : Option Blk) : Option Nat → Option (AV × List (Nat × Blk))
  | some k => some (.own z k off n es,B)
  | none => t1B z id off n es B b
theorem xMq (H : xAv) (z : Bool) (id off n es : Nat) (B : List (Nat × Blk)) : xFC H (.own z id off n es) B = t1I z id off n es B H[id]? (B.findIdx? (fun p => p.1 == id)) := by
  simp only [xFC,t1I]
  cases B.findIdx? (fun p => p.1 == id) with
  | some k => rfl
  | none =>
    simp only [t1B]
    cases H[id]? with
    | none => rfl
    | some b => cases b with
      | cells fz z' cs => cases fz <;> rfl
      | _ => rfl
theorem yCm (z : Bool) (id off n es : Nat) (B : List (Nat × Blk)) (b : Option Blk) (k : Nat) : t1I z id off n es B b (some k) = some (.own z k off n es,B) := rfl
theorem xRv (z : Bool) (id off n es : Nat) (B : List (Nat × Blk)) (z' : Bool) (cs : List AV) : t1I z id off n es B (some (.cells false z' cs)) none = if cs.all xCA = true then some (.own z B.length off n es,B ++ [(id,.cells false z' cs)]) else none := rfl
theorem xZz (H : xAv) (k : IntKind) (n : Int) (B : List (Nat × Blk)) : xFC H (.int k n) B = some (.int k n,B) := rfl
theorem xYw (H : xAv) (b : Bool) (B : List (Nat × Blk)) : xFC H (.bool b) B = some (.bool b,B) := rfl
theorem yA6 (H : xAv) (z : Bool) (n : Nat) (cs : List AV) (B : List (Nat × Blk)) : xFC H (.sl z n cs) B = some (.sl z n cs,B) := rfl
theorem xZA (H : xAv) (b : ByteArray) (B : List (Nat × Blk)) : xFC H (.str b) B = some (.str b,B) := rfl
def tkL (H : xAv) (vs : List AV) : Option (AV × List (Nat × Blk)) → Option (List AV × List (Nat × Blk))
  | some (v',B') => (xJa H vs B').map fun (vs',B2) => (v' :: vs',B2)
  | none => none
theorem xZB (H : xAv) (B : List (Nat × Blk)) : xJa H [] B = some ([],B) := rfl
theorem xYx (H : xAv) (v : AV) (vs : List AV) (B : List (Nat × Blk)) : xJa H (v :: vs) B = tkL H vs (xFC H v B) := by
  simp only [xJa,tkL]
  cases xFC H v B <;> rfl
theorem yA7 (H : xAv) (vs : List AV) (v' : AV) (B' : List (Nat × Blk)) : tkL H vs (some (v',B')) = (xJa H vs B').map fun (vs',B2) => (v' :: vs',B2) := rfl
theorem xZC (H : xAv) (cs : List AV) (B : List (Nat × Blk)) : xG2 H (.agg cs) B = if cs.all AV.isCell = true then (xJa H cs B).map fun (cs',B') => (.agg cs',B') else none := rfl
theorem xZD (H : xAv) (z : Bool) (id off n es : Nat) (B : List (Nat × Blk)) : xG2 H (.own z id off n es) B = xFC H (.own z id off n es) B := rfl
theorem xZE (H : xAv) (k : IntKind) (n : Int) (B : List (Nat × Blk)) : xG2 H (.int k n) B = some (.int k n,B) := rfl
theorem xYy (H : xAv) (b : Bool) (B : List (Nat × Blk)) : xG2 H (.bool b) B = some (.bool b,B) := rfl
theorem yA8 (H : xAv) (z : Bool) (n : Nat) (cs : List AV) (B : List (Nat × Blk)) : xG2 H (.sl z n cs) B = some (.sl z n cs,B) := rfl
def yCn (H : xAv) (vs : List AV) : Option (AV × List (Nat × Blk)) → Option (List AV × List (Nat × Blk))
  | some (v',B') => (xFD H vs B').map fun (vs',B2) => (v' :: vs',B2)
  | none => none
theorem xYz (H : xAv) (B : List (Nat × Blk)) : xFD H [] B = some ([],B) := rfl
theorem xWG (H : xAv) (v : AV) (vs : List AV) (B : List (Nat × Blk)) : xFD H (v :: vs) B = yCn H vs (xG2 H v B) := by
  simp only [xFD,yCn]
  cases xG2 H v B <;> rfl
theorem xZF (H : xAv) (vs : List AV) (v' : AV) (B' : List (Nat × Blk)) : yCn H vs (some (v',B')) = (xFD H vs B').map fun (vs',B2) => (v' :: vs',B2) := rfl
theorem xWH (H : xAv) (vs : List AV) : xEF H (.tup vs) = (xFD H vs []).map fun (vs',B) => (.tup vs',B) := rfl
theorem xWI (H : xAv) (cs : List AV) : xEF H (.agg cs) = xG2 H (.agg cs) [] := rfl
theorem xGp (H : xAv) (z : Bool) (id off n es : Nat) : xEF H (.own z id off n es) = xFC H (.own z id off n es) [] := rfl
theorem xYA (H : xAv) (z : Bool) (n : Nat) (cs : List AV) : xEF H (.sl z n cs) = some (.sl z n cs,[]) := rfl

theorem xMr {α : Type} (p : α → Bool) : ([] : List α).findIdx? p = none := rfl
theorem xYB {α : Type} (p : α → Bool) (a : α) (l : List α) : (a :: l).findIdx? p = if p a = true then some 0 else (l.findIdx? p).map (· + 1) := by
  rw [List.findIdx?_cons]

def xRw (R : Rec) (als : List (Nat × Nat)) (ls : List (Nat × Nat × Nat × Nat)) (m : Nat) (ops : List AOper) : Option (St × List Pr) → Option (AExit × St)
  | some (s,pl) => xEg ls (xBO R (ops.drop m) (xCP als pl s))
  | none => none
theorem xZG (als : List (Nat × Nat)) (ls : List (Nat × Nat × Nat × Nat)) (m : Nat) (ops : List AOper) : run R (.drawp als ls m ops) s = xRw R als ls m ops (xBV R (ops.take m) s) := by
  simp only [run,xRw]
  cases xBV R (ops.take m) s with
  | none => rfl
  | some r =>
    obtain ⟨s1,pl⟩ := r
    simp only [xEg]
    cases xBO R (ops.drop m) (xCP als pl s1) <;> rfl
theorem xWJ (als : List (Nat × Nat)) (ls : List (Nat × Nat × Nat × Nat)) (m : Nat) (ops : List AOper) (s : St) (pl : List Pr) : xRw R als ls m ops (some (s,pl)) = xEg ls (xBO R (ops.drop m) (xCP als pl s)) := rfl
theorem xFP (pl : List Pr) (s : St) : xCP [] pl s = xB8 pl s := rfl
def alK (als : List (Nat × Nat)) : St → St
  | ⟨F,H⟩ => ⟨xDf als F,H⟩
theorem xWK (p : Nat × Nat) (r : List (Nat × Nat)) (pl : List Pr) (s : St) : xCP (p :: r) pl s = alK (p :: r) (xB8 pl s) := rfl
theorem yDX (als : List (Nat × Nat)) (F : List AV) (H : xAv) : alK als ⟨F,H⟩ = ⟨xDf als F,H⟩ := rfl
theorem xYC (F : List AV) : xDf [] F = F := rfl
theorem xWL (d q : Nat) (r : List (Nat × Nat)) (F : List AV) : xDf ((d,q) :: r) F = xDf r (F.set d (F.getD q .any)) := rfl
def xRx (e : Pr) : Option (St × List Pr) → Option (St × List Pr)
  | some (s,l) => some (s,e :: l)
  | none => none
theorem xFQ (e : Pr) (s : St) (l : List Pr) : xRx e (some (s,l)) = some (s,e :: l) := rfl
def xRy (R : Rec) (rest : List AOper) (s : St) : Option Nat → Option (AV × List Blk) → Option (St × List Pr)
  | some t,some (v,B) => xRx (some (t,v,B)) (xBV R rest ⟨s.F.set t .any,s.H⟩)
  | _,_ => none
def xRz (R : Rec) (rest : List AOper) : Option St → Option (St × List Pr)
  | some s => xRx none (xBV R rest s)
  | none => none
theorem xEX : xBV R [] s = some (s,[]) := rfl
theorem xEr (o : AOper) (rest : List AOper) : xBV R (o :: rest) s = if xBM o.op = true then xRy R rest s o.dst (xEG R s.F o.op) else xRz R rest (xB5 R o s) := by
  simp only [xBV]
  split
  · cases o.dst with
    | none => rfl
    | some t => cases xEG R s.F o.op with
      | none => rfl
      | some r =>
        obtain ⟨v,B⟩ := r
        simp only [xRy]
        cases xBV R rest ⟨s.F.set t .any,s.H⟩ <;> rfl
  · cases xB5 R o s with
    | none => rfl
    | some s1 =>
      simp only [xRz]
      cases xBV R rest s1 <;> rfl
theorem xWM (rest : List AOper) (t : Nat) (v : AV) (B : List Blk) : xRy R rest s (some t) (some (v,B)) = xRx (some (t,v,B)) (xBV R rest ⟨s.F.set t .any,s.H⟩) := rfl
theorem xEY (rest : List AOper) (s : St) : xRz R rest (some s) = xRx none (xBV R rest s) := rfl
def xWN : Option (AV × xAv) → Option (AV × List Blk)
  | some (v,B) => if xQj v = true ∧ xFE B = true then some (v,B) else none
  | none => none
theorem yA9 (op : AOp) : xEG R F op = if op.args.all (fun x => xJB (opv F x)) = true then xWN (xAn R F [] op) else none := by
  unfold xEG xWN
  split
  · cases xAn R F [] op <;> rfl
  · rfl
theorem xYD (v : AV) (B : xAv) : xWN (some (v,B)) = if xQj v = true ∧ xFE B = true then some (v,B) else none := rfl
theorem xVr (f : Nat) (as : List Arg) : xBM (.ocall f as) = true := rfl
theorem xYE (x : Arg) : xBM (.box x) = true := rfl
theorem xWO (z : List AV) (b : Nat) (x y : Arg) : xBM (.mkslice false z b x y) = true := rfl
theorem xWP (z : List AV) (b : Nat) (x y : Arg) : xBM (.mkslice true z b x y) = false := rfl
theorem xWQ (z : List AV) (es n : Nat) (ps : List (Nat × Arg)) : xBM (.bslice false z es n ps) = true := rfl
theorem xWR (z : List AV) (es n : Nat) (ps : List (Nat × Arg)) : xBM (.bslice true z es n ps) = false := rfl
theorem xWS (es b : Nat) (x y : Arg) : xBM (.append false es b x y) = true := rfl
theorem xWT (es b : Nat) (x y : Arg) : xBM (.append true es b x y) = false := rfl
theorem xWU (z : List AV) (b : Nat) (x y : Arg) : xBM (.appendz z b x y) = true := rfl
theorem xJY (x : Arg) : xBM (.mov x) = false := rfl
theorem xWV (x y z : Arg) : xBM (.pick x y z) = false := rfl
theorem xVs (z : List AV) (ps : List (Nat × Nat × Arg)) : xBM (.build z ps) = false := rfl
theorem xEZ (g : Bool) (n : Nat) (x : Arg) : xBM (.load g n x) = false := rfl
theorem xTP (x : Arg) : xBM (.nilchk x) = false := rfl
theorem xYF (op : BinOp) (x y : Arg) : xBM (.bin op x y) = false := rfl
theorem xYG (g : Bool) (x y : Arg) : xBM (.beq g x y) = false := rfl
theorem xVt (g : Bool) (x : Arg) : xBM (.isnil g x) = false := rfl
theorem xZH (op : UnOp) (x : Arg) : xBM (.un op x) = false := rfl
theorem xWW (k : IntKind) (x : Arg) : xBM (.conv k x) = false := rfl
theorem xTQ (f : Nat) (as : List Arg) : xBM (.mkfunc f as) = false := rfl
theorem xVu (es : Nat) (x : Arg) (a b c : Option Arg) : xBM (.slice es x a b c) = false := rfl
theorem xHH (o : Nat) (x : Arg) : xBM (.faddr o x) = false := rfl
theorem xVv (g : Bool) (o n : Nat) (x : Arg) : xBM (.field g o n x) = false := rfl
theorem xHI (es : Nat) (x i : Arg) : xBM (.iaddr es x i) = false := rfl
theorem xYH (i : Nat) (x : Arg) : xBM (.ext i x) = false := rfl
theorem xYI (x : Arg) : xBM (.len x) = false := rfl
theorem xYJ (x : Arg) : xBM (.cap x) = false := rfl
theorem xYK (g : Bool) (n : Nat) (x y : Arg) : xBM (.aeq g n x y) = false := rfl
theorem xWX (f : Nat) (as : List Arg) : xBM (.call f as) = false := rfl
theorem xVw (f : Arg) (as : List Arg) : xBM (.fcall f as) = false := rfl
theorem xWY (x y : Arg) : xBM (.maxi x y) = false := rfl
theorem xWZ (x y : Arg) : xBM (.mini x y) = false := rfl
theorem xW0 : xFE [] = true := rfl
theorem xVx (z : Bool) (cs : List AV) (B : List Blk) : xFE (.cells false z cs :: B) = (cs.all xCA && xFE B) := rfl
theorem xKv {α : Type} {f : α → AV} (h : ∀ a,xCA (f a) = true) (l : List α) : (l.map f).all xCA = true := by
  simp [List.all_eq_true,h]
end

section
variable {R : Rec} {F : List AV} {H : xAv}
def yBa (g : Bool) (es len : Nat) : AV → AV → Option AV
  | .agg cs,.int _ i => if 0 ≤ i ∧ i.toNat < len ∧ i.toNat * es + es ≤ cs.length then mkv g ((cs.drop (i.toNat * es)).take es) else none
  | _,_ => none
theorem xD5 {g : Bool} {es len : Nat} {cs : List AV} {k : IntKind} {i : Int} (h0 : 0 ≤ i) (h : i < len) (h2 : i.toNat * es + es ≤ cs.length) : yBa g es len (.agg cs) (.int k i) = mkv g ((cs.drop (i.toNat * es)).take es) := if_pos ⟨h0,by omega,h2⟩
theorem xGN (g : Bool) (es len : Nat) (x i : Arg) : xAn R F H (.idx g es len x i) = xD4 H (yBa g es len (opv F x) (opv F i)) := by
  simp only [xAn]
  cases opv F x with
  | agg cs => cases opv F i with
    | int k n =>
      by_cases h0 : 0 ≤ n
      · have e : xCI (.int k n) = some n.toNat := by simp [xCI,h0]
        simp only [e,yBa,h0,true_and]
        by_cases c : n.toNat < len ∧ n.toNat * es + es ≤ cs.length
        · rw [if_pos c,if_pos c]
          cases mkv g ((cs.drop (n.toNat * es)).take es) <;> rfl
        · rw [if_neg c,if_neg c]; rfl
      · have e : xCI (.int k n) = none := by simp [xCI,h0]
        simp only [e,yBa,h0,false_and,if_false,xD4]
    | _ => rfl
  | _ => rfl
def xII (es len : Nat) : AV → AV → Option AV
  | .ptr id off,.int _ i => if 0 ≤ i ∧ i.toNat < len then some (.ptr id (off + i.toNat * es)) else none
  | .vptr cs off,.int _ i => if 0 ≤ i ∧ i.toNat < len then some (.vptr cs (off + i.toNat * es)) else none
  | _,_ => none
theorem xJZ {es len id off : Nat} {k : IntKind} {i : Int} (h0 : 0 ≤ i) (h : i < len) : xII es len (.ptr id off) (.int k i) = some (.ptr id (off + i.toNat * es)) := if_pos ⟨h0,by omega⟩
theorem xDH {es len off : Nat} {cs : List AV} {k : IntKind} {i : Int} (h0 : 0 ≤ i) (h : i < len) : xII es len (.vptr cs off) (.int k i) = some (.vptr cs (off + i.toNat * es)) := if_pos ⟨h0,by omega⟩
theorem xEs (es len : Nat) (x i : Arg) : xAn R F H (.arrat es len x i) = xD4 H (xII es len (opv F x) (opv F i)) := by
  simp only [xAn]
  cases opv F x with
  | ptr id off => cases opv F i with
    | int k n =>
      by_cases h0 : 0 ≤ n
      · have e : xCI (.int k n) = some n.toNat := by simp [xCI,h0]
        simp only [e,xII,h0,true_and]
        by_cases c : n.toNat < len
        · rw [if_pos c,if_pos c]; rfl
        · rw [if_neg c,if_neg c]; rfl
      · have e : xCI (.int k n) = none := by simp [xCI,h0]
        simp only [e,xII,h0,false_and,if_false,xD4]
    | _ => rfl
  | vptr cs off => cases opv F i with
    | int k n =>
      by_cases h0 : 0 ≤ n
      · have e : xCI (.int k n) = some n.toNat := by simp [xCI,h0]
        simp only [e,xII,h0,true_and]
        by_cases c : n.toNat < len
        · rw [if_pos c,if_pos c]; rfl
        · rw [if_neg c,if_neg c]; rfl
      · have e : xCI (.int k n) = none := by simp [xCI,h0]
        simp only [e,xII,h0,false_and,if_false,xD4]
    | _ => rfl
  | _ => rfl
def xTR (es len : Nat) : Option (List AV) → AV → Option AV
  | some cs,.int _ i => if 0 ≤ i ∧ i.toNat < len then some (.vptr cs (i.toNat * es)) else none
  | _,_ => none
theorem xYL {es len : Nat} {cs : List AV} {k : IntKind} {i : Int} (h0 : 0 ≤ i) (h : i < len) : xTR es len (some cs) (.int k i) = some (.vptr cs (i.toNat * es)) := if_pos ⟨h0,by omega⟩
theorem yCo (b es len : Nat) (i : Arg) : xAn R F H (.garr b es len i) = xD4 H (xTR es len (xPV b) (opv F i)) := by
  simp only [xAn]
  cases xPV b with
  | none => rfl
  | some cs => cases opv F i with
    | int k n =>
      by_cases h0 : 0 ≤ n
      · have e : xCI (.int k n) = some n.toNat := by simp [xCI,h0]
        simp only [e,xTR,h0,true_and]
        by_cases c : n.toNat < len
        · rw [if_pos c,if_pos c]; rfl
        · rw [if_neg c,if_neg c]; rfl
      · have e : xCI (.int k n) = none := by simp [xCI,h0]
        simp only [e,xTR,h0,false_and,if_false,xD4]
    | _ => rfl
def xZI : AV → Option AV
  | .str s => some (.int .i64 s.size)
  | _ => none
theorem xZJ (s : ByteArray) : xZI (.str s) = some (.int .i64 s.size) := rfl
theorem yCp (x : Arg) : xAn R F H (.slen x) = xD4 H (xZI (opv F x)) := by
  simp only [xAn]
  cases opv F x <;> rfl
theorem yDY (g : Bool) (es len : Nat) (x i : Arg) : xB3 R F H (.idx g es len x i) = xFa H (xAn R F H (.idx g es len x i)) := xDy _ rfl
theorem xFR (es len : Nat) (x i : Arg) : xB3 R F H (.arrat es len x i) = xFa H (xAn R F H (.arrat es len x i)) := xDy _ rfl
theorem yCq (b es len : Nat) (i : Arg) : xB3 R F H (.garr b es len i) = xFa H (xAn R F H (.garr b es len i)) := xDy _ rfl
theorem xRA (mx : Bool) (x : Arg) (xs : List Arg) : xAn R F H (.mm mx (x :: xs)) = xD4 H (mmA mx (opv F x) (xs.map (opv F))) := by
  simp only [xAn,List.map_cons,xD4]
  cases mmA mx (opv F x) (xs.map (opv F)) <;> rfl
theorem xIJ (mx : Bool) (k : IntKind) (a : Int) : mmA mx (.int k a) [] = some (.int k a) := rfl
theorem xIK (k k' : IntKind) (a b : Int) (r : List AV) : mmA false (.int k a) (.int k' b :: r) = mmA false (.int k (min a b)) r := by
  simp only [mmA,Bool.false_eq_true,if_false]
  congr 2; split <;> omega
theorem xKw (k k' : IntKind) (a b : Int) (r : List AV) : mmA true (.int k a) (.int k' b :: r) = mmA true (.int k (max a b)) r := by
  simp only [mmA,if_true]
  congr 2; split <;> omega
theorem yE1 (mx : Bool) (xs : List Arg) : xB3 R F H (.mm mx xs) = xFa H (xAn R F H (.mm mx xs)) := xDy _ rfl
theorem xZK (mx : Bool) (xs : List Arg) : xBM (.mm mx xs) = false := rfl
theorem yCr (x : Arg) : xB3 R F H (.slen x) = xFa H (xAn R F H (.slen x)) := xDy _ rfl
end
end Go.Abs
