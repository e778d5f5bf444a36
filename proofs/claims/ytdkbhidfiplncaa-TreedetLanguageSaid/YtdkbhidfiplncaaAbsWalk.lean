/- The interpreter's equations in the form that simp walks by: one equation for each construct, told apart by what has been computed already. -/
import Derived.Test.YtdkbhidfiplncaaAbsLim
namespace Go.Abs
set_option linter.unusedVariables false
set_option linter.unusedSimpArgs false

theorem xFM : ∀ (scr : List Nat) (F : List AV) (i : Nat), (xBw scr F)[i]? = if i ∈ scr then (F[i]?).map (fun _ => AV.any) else F[i]?
  | [], F, i => by simp [xBw]
  | j :: scr, F, i => by
    have := xFM scr (F.set j .any) i
    simp only [xBw, List.foldl_cons] at this ⊢
    rw [this]
    by_cases h : i = j
    · subst h
      simp only [List.getElem?_set_self', List.mem_cons, true_or, if_true]
      cases F[i]? <;> simp
    · have h' : ¬ j = i := fun e => h e.symm
      simp [List.getElem?_set, h, h']

theorem xMP (scr : List Nat) (F : List AV) : xBw scr (xBw scr F) = xBw scr F := by
  apply List.ext_getElem?
  intro i
  rw [xFM, xFM]
  split
  · cases F[i]? <;> rfl
  · rfl

section
variable {prog : Nat → Option AFunc}

theorem xQg (prog : Nat → Option AFunc) (n : Nat) : Tends (fix prog n) (fun _ => lim prog) :=
  ⟨fun f a v h => .all fun _ => xGn ((xFr prog n).pcall f a v h), fun f a H v h => .all fun _ => xGn ((xFr prog n).icall f a H v h), fun scr b s v h => .all fun _ => xGn ((xFr prog n).loop scr b s v h)⟩

theorem Ev.const {p : Prop} (h : Ev fun _ => p) : p := let ⟨n, hn⟩ := h; hn n (Nat.le_refl n)

theorem xQh {α : Type} {a b : Option α} (h1 : ∀ v, a = some v → b = some v) (h2 : ∀ v, b = some v → a = some v) : a = b := by
  cases a with
  | some v => exact (h1 v rfl).symm
  | none =>
    cases b with
    | none => rfl
    | some v => exact h2 v rfl

theorem xAv {f : Nat} {fn : AFunc} (hf : prog f = some fn) (args : List AV) : (lim prog).pcall f args = xBc (lim prog) fn args := by
  refine xQh (fun v h => ?_) (fun v h => xLP hf h)
  obtain ⟨n, hn⟩ := xDN (p := fun m => (fix prog m).pcall f args) h
  have h1 : (xEC prog (fix prog n)).pcall f args = some v := hn (n + 1) (by omega)
  have h2 := (xC2 (xQg prog n) prog).pcall f args v h1 |>.const
  simp only [xEC, hf] at h2
  exact h2

theorem xHz (f : AV) (args : List AV) (H : xAA) : (lim prog).icall f args H = xEM prog (lim prog) f args H := by
  refine xQh (fun v h => ?_) (fun v h => xLQ h)
  obtain ⟨n, hn⟩ := xDN (p := fun m => (fix prog m).icall f args H) h
  have h1 : (xEC prog (fix prog n)).icall f args H = some v := hn (n + 1) (by omega)
  exact (xC2 (xQg prog n) prog).icall f args H v h1 |>.const

theorem xGk (scr : List Nat) (b : ACode) (s : St) : (lim prog).loop scr b s = xI3 (lim prog) scr b s := by
  refine xQh (fun v h => ?_) (fun v h => xN9 h)
  obtain ⟨n, hn⟩ := xDN (p := fun m => (fix prog m).loop scr b s) h
  have h1 : (xEC prog (fix prog n)).loop scr b s = some v := hn (n + 1) (by omega)
  exact (xC2 (xQg prog n) prog).loop scr b s v h1 |>.const

theorem xAw {f : Nat} {fn : AFunc} (hf : prog f = some fn) (caps args : List AV) (H : xAA) : (lim prog).icall (.func f caps) args H = xBD (lim prog) fn (args ++ caps) H := by
  rw [xHz]
  simp only [xEM, hf]

theorem xUC (l : Nat) (args : List AV) (H : xAA) : (lim prog).icall (.yield l) args H = xGU (lim prog) l args H := by
  rw [xHz]
  rfl

theorem xGa (scr : List Nat) (b : ACode) (F : List AV) (H : xAA) : (lim prog).loop scr b ⟨F, H⟩ = (lim prog).loop scr b ⟨xBw scr F, H⟩ := by
  rw [xGk, xGk]
  unfold xI3
  simp only [xMP]

def xCh (R : Rec) (scr : List Nat) (b : ACode) : Option (AExit × St) → Option (AExit × St)
  | some (.normal, s) => R.loop scr b ⟨xBw scr s.F, s.H⟩
  | some (e, s) => some (e, ⟨xBw scr s.F, s.H⟩)
  | none => none

theorem xAS (scr : List Nat) (b : ACode) (F : List AV) (H : xAA) (h : xBw scr F = F) : (lim prog).loop scr b ⟨F, H⟩ = xCh (lim prog) scr b (run (lim prog) b ⟨F, H⟩) := by
  rw [xGk]
  unfold xI3 xCh
  simp only [h]
  split
  · rename_i s' hs
    rw [hs]
    exact xGa scr b s'.F s'.H
  · rename_i e s' hne hs
    rw [hs]
    cases e with
    | normal => exact (hne rfl).elim
    | exit i => rfl
    | ret => rfl
  · rename_i hs
    rw [hs]

theorem xBe (scr : List Nat) (b : ACode) (F : List AV) (H : xAA) : run (lim prog) (.loop scr b) ⟨F, H⟩ = (lim prog).loop scr b ⟨xBw scr F, H⟩ := xGa scr b F H
end

section
variable {R : Rec} {F : List AV} {H : xAA} {s : St}

def xSL (R : Rec) (b : ACode) : Option (AExit × St) → Option (AExit × St)
  | some (.normal, s) => run R b s
  | r => r
theorem xAo (a b : ACode) : run R (.seq a b) s = xSL R b (run R a s) := by
  simp only [run, xSL]
  split <;> simp_all
theorem xAd (b : ACode) (s : St) : xSL R b (some (.normal, s)) = run R b s := rfl
theorem xBh (b : ACode) (i : Nat) (s : St) : xSL R b (some (.exit i, s)) = some (.exit i, s) := rfl
theorem xBa (b : ACode) (s : St) : xSL R b (some (.ret, s)) = some (.ret, s) := rfl
theorem xYx (b : ACode) : xSL R b none = none := rfl
theorem yAf (b : ACode) {c : Prop} [Decidable c] (x y : Option (AExit × St)) : xSL R b (if c then x else y) = if c then xSL R b x else xSL R b y := by split <;> rfl

def xVA (R : Rec) (a b : ACode) (s : St) : AV → Option (AExit × St)
  | .bool t => if t = true then run R a s else run R b s
  | _ => none
theorem xAq (c : Arg) (a b : ACode) (F : List AV) (H : xAA) : run R (.cond c a b) ⟨F, H⟩ = xVA R a b ⟨F, H⟩ (opv F c) := by
  simp only [run, xVA]
  split <;> simp_all
theorem xAn (a b : ACode) (t : Bool) : xVA R a b s (.bool t) = if t = true then run R a s else run R b s := rfl

def xGC (id : Nat) : Option (AExit × St) → Option (AExit × St)
  | some (.exit i, s) => if i = id then some (.normal, s) else some (.exit i, s)
  | r => r
theorem xAs (id : Nat) (b : ACode) : run R (.block id b) s = xGC id (run R b s) := by
  simp only [run, xGC]
  split <;> simp_all
theorem xA0 (id i : Nat) (s : St) : xGC id (some (.exit i, s)) = if i = id then some (.normal, s) else some (.exit i, s) := rfl
theorem xAu (id : Nat) (s : St) : xGC id (some (.normal, s)) = some (.normal, s) := rfl
theorem xBj (id : Nat) (s : St) : xGC id (some (.ret, s)) = some (.ret, s) := rfl
theorem xVB (id : Nat) : xGC id none = none := rfl
theorem xXw (id : Nat) {c : Prop} [Decidable c] (x y : Option (AExit × St)) : xGC id (if c then x else y) = if c then xGC id x else xGC id y := by split <;> rfl

theorem xAM (scr : List Nat) (b : ACode) (F : List AV) (H : xAA) : xCh R scr b (some (.normal, ⟨F, H⟩)) = R.loop scr b ⟨xBw scr F, H⟩ := rfl
theorem xA9 (scr : List Nat) (b : ACode) (i : Nat) (F : List AV) (H : xAA) : xCh R scr b (some (.exit i, ⟨F, H⟩)) = some (.exit i, ⟨xBw scr F, H⟩) := rfl
theorem xCi (scr : List Nat) (b : ACode) (F : List AV) (H : xAA) : xCh R scr b (some (.ret, ⟨F, H⟩)) = some (.ret, ⟨xBw scr F, H⟩) := rfl
theorem xYy (scr : List Nat) (b : ACode) {c : Prop} [Decidable c] (x y : Option (AExit × St)) : xCh R scr b (if c then x else y) = if c then xCh R scr b x else xCh R scr b y := by split <;> rfl

def xSk : Option St → Option (AExit × St)
  | some s => some (.normal, s)
  | none => none
theorem xAj (s : St) : xSk (some s) = some (.normal, s) := rfl
theorem xYz : xSk none = none := rfl
theorem yAg {c : Prop} [Decidable c] (x y : Option St) : xSk (if c then x else y) = if c then xSk x else xSk y := by split <;> rfl
theorem xAf (ops : List AOper) : run R (.region ops) s = xSk (xBJ R ops s) := by
  simp only [run, xSk]
  cases xBJ R ops s <;> rfl
theorem xAG : run R .skip s = some (.normal, s) := rfl
theorem xIs : run R .label s = some (.normal, s) := rfl
theorem xBy (i : Nat) : run R (.exit i) s = some (.exit i, s) := rfl
theorem xAO : run R .ret s = some (.ret, s) := rfl
theorem xIt (b : ACode) : run R (.scope b) s = run R b s := rfl
theorem xYA : run R .stuck s = none := rfl

def xVC (R : Rec) (rest : List AOper) : Option St → Option St
  | some s => xBJ R rest s
  | none => none
theorem xAg : xBJ R [] s = some s := rfl
theorem xAc (o : AOper) (rest : List AOper) : xBJ R (o :: rest) s = xVC R rest (xBN R o s) := by
  simp only [xBJ, xVC]
  cases xBN R o s <;> rfl
theorem xAi (rest : List AOper) (s : St) : xVC R rest (some s) = xBJ R rest s := rfl
theorem xYB (rest : List AOper) : xVC R rest none = none := rfl
theorem yAh (rest : List AOper) {c : Prop} [Decidable c] (x y : Option St) : xVC R rest (if c then x else y) = if c then xVC R rest x else xVC R rest y := by split <;> rfl

def xQi (F : List AV) (d : Option Nat) : Option (AV × xAA) → Option St
  | some (v, H) => some ⟨putA F d v, H⟩
  | none => none
theorem xAp (d : Nat) (v : AV) : xQi F (some d) (some (v, H)) = some ⟨F.set d v, H⟩ := rfl
theorem xBl (v : AV) : xQi F none (some (v, H)) = some ⟨F, H⟩ := rfl
theorem xYC (d : Option Nat) : xQi F d none = none := rfl
theorem yAi (d : Option Nat) {c : Prop} [Decidable c] (x y : Option (AV × xAA)) : xQi F d (if c then x else y) = if c then xQi F d x else xQi F d y := by split <;> rfl
theorem xAk (d : Option Nat) (op : AOp) : xBN R ⟨d, op, none⟩ ⟨F, H⟩ = xQi F d (xAm R F H op) := by
  simp only [xBN, xDB, xQi]
  cases xAm R F H op <;> rfl
def xN1 (R : Rec) (d : Option Nat) (op : AOp) (w : Bool) (F : List AV) (H : xAA) : AV → Option St
  | .bool b => if b = w then xQi F d (xAm R F H op) else some ⟨putA F d (.tup []), H⟩
  | .any => none
  | _ => some ⟨putA F d (.tup []), H⟩
theorem xAJ (d : Option Nat) (op : AOp) (t : Nat) (w : Bool) : xBN R ⟨d, op, some (t, w)⟩ ⟨F, H⟩ = xN1 R d op w F H (F.getD t .any) := by
  simp only [xBN, xDB, xN1]
  cases F.getD t .any with
  | bool b =>
    cases b <;> cases w <;> simp [xQi] <;> cases xAm R F H op <;> rfl
  | _ => rfl
theorem xAD (d : Option Nat) (op : AOp) (w b : Bool) : xN1 R d op w F H (.bool b) = if b = w then xQi F d (xAm R F H op) else some ⟨putA F d (.tup []), H⟩ := rfl
theorem xJN (d : Option Nat) (op : AOp) (w : Bool) (vs : List AV) : xN1 R d op w F H (.tup vs) = some ⟨putA F d (.tup []), H⟩ := rfl
theorem xCf (d : Nat) (v : AV) : putA F (some d) v = F.set d v := rfl
theorem yBo (v : AV) : putA F none v = F := rfl

def xMQ (R : Rec) (m : Nat) (ops : List AOper) : Option St → Option (AExit × St)
  | some s => xSk (xBJ R (ops.drop m) (xCJ (ops.take m) s))
  | none => none
theorem xBT (m : Nat) (ops : List AOper) : run R (.draw m ops) s = xMQ R m ops (xCt R (ops.take m) s) := by
  simp only [run, xMQ]
  cases xCt R (ops.take m) s with
  | none => rfl
  | some s1 =>
    simp only [xSk]
    cases xBJ R (ops.drop m) (xCJ (ops.take m) s1) <;> rfl
theorem xBz (m : Nat) (ops : List AOper) (s : St) : xMQ R m ops (some s) = xSk (xBJ R (ops.drop m) (xCJ (ops.take m) s)) := rfl
theorem xXx (m : Nat) (ops : List AOper) : xMQ R m ops none = none := rfl
theorem xYD (m : Nat) (ops : List AOper) {c : Prop} [Decidable c] (x y : Option St) : xMQ R m ops (if c then x else y) = if c then xMQ R m ops x else xMQ R m ops y := by split <;> rfl

def xD9 (ls : List (Nat × Nat × Nat × Nat)) : Option St → Option (AExit × St)
  | some s => if ls.all (apart s.F) = true then some (.normal, s) else none
  | none => none
def xIu (R : Rec) (ls : List (Nat × Nat × Nat × Nat)) (m : Nat) (ops : List AOper) : Option St → Option (AExit × St)
  | some s => xD9 ls (xBJ R (ops.drop m) (xCJ (ops.take m) s))
  | none => none
theorem xYE (ls : List (Nat × Nat × Nat × Nat)) (m : Nat) (ops : List AOper) : run R (.drawl ls m ops) s = xIu R ls m ops (xCt R (ops.take m) s) := by
  simp only [run, xIu]
  cases xCt R (ops.take m) s with
  | none => rfl
  | some s1 =>
    simp only [xD9]
    cases xBJ R (ops.drop m) (xCJ (ops.take m) s1) <;> rfl
theorem xVD (ls : List (Nat × Nat × Nat × Nat)) (m : Nat) (ops : List AOper) (s : St) : xIu R ls m ops (some s) = xD9 ls (xBJ R (ops.drop m) (xCJ (ops.take m) s)) := rfl
theorem xVE (ls : List (Nat × Nat × Nat × Nat)) (m : Nat) (ops : List AOper) : xIu R ls m ops none = none := rfl
theorem xXy (ls : List (Nat × Nat × Nat × Nat)) (m : Nat) (ops : List AOper) {c : Prop} [Decidable c] (x y : Option St) : xIu R ls m ops (if c then x else y) = if c then xIu R ls m ops x else xIu R ls m ops y := by split <;> rfl
theorem xEP (ls : List (Nat × Nat × Nat × Nat)) (s : St) : xD9 ls (some s) = if ls.all (apart s.F) = true then some (.normal, s) else none := rfl
theorem xVF (ls : List (Nat × Nat × Nat × Nat)) : xD9 ls none = none := rfl
theorem xXz (ls : List (Nat × Nat × Nat × Nat)) {c : Prop} [Decidable c] (x y : Option St) : xD9 ls (if c then x else y) = if c then xD9 ls x else xD9 ls y := by split <;> rfl

def xMR (R : Rec) (rest : List AOper) : Option St → Option St
  | some s => xCt R rest s
  | none => none
theorem xBp : xCt R [] s = some s := rfl
theorem xBg (o : AOper) (rest : List AOper) : xCt R (o :: rest) s = xMR R rest (xBX R o s) := by
  simp only [xCt, xMR]
  cases xBX R o s <;> rfl
theorem xBA (rest : List AOper) (s : St) : xMR R rest (some s) = xCt R rest s := rfl
theorem xXA (rest : List AOper) : xMR R rest none = none := rfl
theorem xYF (rest : List AOper) {c : Prop} [Decidable c] (x y : Option St) : xMR R rest (if c then x else y) = if c then xMR R rest x else xMR R rest y := by split <;> rfl

def xIv (F : List AV) (d : Option Nat) (H : xAA) : Option (AV × xAA) → Option St
  | some (v, _) => some ⟨putA F d v, H⟩
  | none => none
theorem xBM (d : Nat) (v : AV) (H' : xAA) : xIv F (some d) H (some (v, H')) = some ⟨F.set d v, H⟩ := rfl
theorem yAj (v : AV) (H' : xAA) : xIv F none H (some (v, H')) = some ⟨F, H⟩ := rfl
theorem xXB (d : Option Nat) : xIv F d H none = none := rfl
theorem xYG (d : Option Nat) {c : Prop} [Decidable c] (x y : Option (AV × xAA)) : xIv F d H (if c then x else y) = if c then xIv F d H x else xIv F d H y := by split <;> rfl

def xBW (R : Rec) (F : List AV) (H : xAA) (op : AOp) : Option (AV × xAA) := (xBv R F H op).map fun v => (v, H)
theorem xBo (d : Option Nat) (op : AOp) : xBX R ⟨d, op, none⟩ ⟨F, H⟩ = xIv F d H (xBW R F H op) := by
  simp only [xBX, xDB, xIv, xBW]
  cases xBv R F H op <;> rfl
def xKj (R : Rec) (d : Option Nat) (op : AOp) (w : Bool) (F : List AV) (H : xAA) : AV → Option St
  | .bool b => if b = w then xIv F d H (xBW R F H op) else some ⟨putA F d (.tup []), H⟩
  | .any => none
  | _ => some ⟨putA F d (.tup []), H⟩
theorem xC0 (d : Option Nat) (op : AOp) (t : Nat) (w : Bool) : xBX R ⟨d, op, some (t, w)⟩ ⟨F, H⟩ = xKj R d op w F H (F.getD t .any) := by
  simp only [xBX, xDB, xKj]
  cases F.getD t .any with
  | bool b =>
    cases b <;> cases w <;> simp [xIv, xBW] <;> cases xBv R F H op <;> rfl
  | _ => rfl
theorem xCL (d : Option Nat) (op : AOp) (w b : Bool) : xKj R d op w F H (.bool b) = if b = w then xIv F d H (xBW R F H op) else some ⟨putA F d (.tup []), H⟩ := rfl
theorem xVG (d : Option Nat) (op : AOp) (w : Bool) (vs : List AV) : xKj R d op w F H (.tup vs) = some ⟨putA F d (.tup []), H⟩ := rfl

def xDU (H : xAA) : Option AV → Option (AV × xAA)
  | some v => some (v, H)
  | none => none
theorem xAl (v : AV) : xDU H (some v) = some (v, H) := rfl
theorem xYH : xDU H none = none := rfl
theorem yAk {c : Prop} [Decidable c] (x y : Option AV) : xDU H (if c then x else y) = if c then xDU H x else xDU H y := by split <;> rfl

theorem xAE (x : Arg) : xAm R F H (.mov x) = some (opv F x, H) := rfl
def xVH : AV → AV → AV → Option AV
  | .bool t, a, b => some (if t = true then a else b)
  | _, _, _ => none
theorem xAK (t : Bool) (a b : AV) : xVH (.bool t) a b = some (if t = true then a else b) := rfl
theorem xA7 (c a b : Arg) : xAm R F H (.pick c a b) = xDU H (xVH (opv F c) (opv F a) (opv F b)) := by
  simp only [xAm, xVH, xDU]
  split <;> simp_all
theorem xBn (x : Arg) : xAm R F H (.box x) = if (opv F x).cells.all AV.isCell = true then some (.ptr H.length 0, H ++ [.cells false false (opv F x).cells]) else none := rfl
theorem xCB (z : List AV) (parts : List (Nat × Nat × Arg)) : xAm R F H (.build z parts) =
    if parts.all (fun p => (opv F p.2.2).cells.length == p.2.1) = true then xDU H ((xCp z (parts.map fun p => (p.1, (opv F p.2.2).cells))).map AV.agg) else none := by
  simp only [xAm, xDU]
  split
  · cases xCp z (parts.map fun p => (p.1, (opv F p.2.2).cells)) <;> rfl
  · rfl
def yBp (fz z : Bool) (n es : Nat) (H : xAA) : Option (List AV) → Option (AV × xAA)
  | some cs => xFk fz z n es cs H
  | none => none
theorem xCb (fz z : Bool) (n es : Nat) (cs : List AV) : yBp fz z n es H (some cs) = xFk fz z n es cs H := rfl
theorem xCO (z : Bool) (n es : Nat) (cs : List AV) : xFk false z n es cs H = some (.own z H.length 0 n es, H ++ [.cells false z cs]) := rfl
def slK (z : Bool) (n : Nat) : Option (List AV) → Option AV
  | some cs => some (.sl z n cs)
  | none => none
theorem xB5 (z : Bool) (n : Nat) (cs : List AV) : slK z n (some cs) = some (.sl z n cs) := rfl
theorem xCn (z : Bool) (n es : Nat) (cs : List AV) : xFk true z n es cs H = if (cs.flatMap (bor xBI H)).isEmpty = true then xDU H (slK z n (cs.mapM (frz xBI H))) else none := by
  simp only [xFk, xDU, slK]
  split
  · rename_i h
    cases cs.mapM (frz xBI H) <;> simp_all
  · simp_all
theorem xCc (fz : Bool) (z : List AV) (es n : Nat) (parts : List (Nat × Arg)) : xAm R F H (.bslice fz z es n parts) =
    if parts.all (fun p => (opv F p.2).cells.length == es) = true then yBp fz false n es H (xCp (xEg z n) (parts.map fun p => (p.1 * es, (opv F p.2).cells))) else none := by
  simp only [xAm, yBp]
  split
  · cases xCp (xEg z n) (parts.map fun p => (p.1 * es, (opv F p.2).cells)) <;> rfl
  · rfl
def xSM (g : Bool) : Option (List AV) → Option AV
  | some cs => mkv g cs
  | none => none
theorem xAV (v : AV) : xSM false (some [v]) = some v := rfl
theorem xBs (cs : List AV) : xSM true (some cs) = some (.agg cs) := rfl
theorem xAP (g : Bool) (n : Nat) (p : Arg) : xAm R F H (.load g n p) = xDU H (xSM g (rd H (opv F p) n)) := by
  simp only [xAm, xDU, xSM]
  cases rd H (opv F p) n with
  | none => rfl
  | some cs => simp only; cases mkv g cs <;> rfl
def rdK (off n : Nat) : Option Blk → Option (List AV)
  | some (.cells _ _ cs) => if off + n ≤ cs.length then some ((cs.drop off).take n) else none
  | _ => none
theorem xA5 (id off n : Nat) : rd H (.ptr id off) n = rdK off n H[id]? := by
  simp only [rd, rdK]
  rfl
theorem xAz {off n : Nat} {fz z : Bool} {cs : List AV} (h : off + n ≤ cs.length) : rdK off n (some (.cells fz z cs)) = some ((cs.drop off).take n) := if_pos h
theorem xBu {off n : Nat} {cs : List AV} (h : off + n ≤ cs.length) : rd H (.vptr cs off) n = some ((cs.drop off).take n) := if_pos h

def wrK (H : xAA) (id off : Nat) (vs : List AV) : Option Blk → Option xAA
  | some (.cells false z cs) => if off + vs.length ≤ cs.length ∧ vs.all AV.isCell = true then some (H.set id (.cells false z (xBd cs off vs))) else none
  | _ => none
theorem xBH (id off : Nat) (vs : List AV) : wr H (.ptr id off) vs = wrK H id off vs H[id]? := by
  simp only [wr, wrK]
  rfl
theorem xA3 {id off : Nat} {vs : List AV} {z : Bool} {cs : List AV} (h : off + vs.length ≤ cs.length) (h2 : vs.all AV.isCell = true) : wrK H id off vs (some (.cells false z cs)) = some (H.set id (.cells false z (xBd cs off vs))) := if_pos ⟨h, h2⟩
def xQj : Option xAA → Option (AV × xAA)
  | some H => some (.tup [], H)
  | none => none
theorem xAR (H : xAA) : xQj (some H) = some (.tup [], H) := rfl
theorem xBb (n : Nat) (p v : Arg) : xAm R F H (.store n p v) = if (opv F v).cells.length = n then xQj (wr H (opv F p) (opv F v).cells) else none := by
  simp only [xAm, xQj]
  split
  · cases wr H (opv F p) (opv F v).cells <;> rfl
  · rfl
def xYI : AV → Option AV
  | .ptr id off => some (.ptr id off)
  | .vptr cs off => some (.vptr cs off)
  | .func f caps => some (.func f caps)
  | .yield l => some (.yield l)
  | _ => none
theorem yAl (id off : Nat) : xYI (.ptr id off) = some (.ptr id off) := rfl
theorem xYJ (cs : List AV) (off : Nat) : xYI (.vptr cs off) = some (.vptr cs off) := rfl
theorem xYK (f : Nat) (cs : List AV) : xYI (.func f cs) = some (.func f cs) := rfl
theorem xXC (l : Nat) : xYI (.yield l) = some (.yield l) := rfl
theorem xYL (x : Arg) : xAm R F H (.nilchk x) = xDU H (xYI (opv F x)) := by
  simp only [xAm]
  cases opv F x <;> rfl
theorem xAH (op : BinOp) (x y : Arg) : xAm R F H (.bin op x y) = xDU H (xE3 op (opv F x) (opv F y)) := by
  simp only [xAm, xDU]
  cases xE3 op (opv F x) (opv F y) <;> rfl

section
variable (k : IntKind) (a b : Int)
theorem xBq : xE3 .add (.int k a) (.int k b) = some (.int k (k.wrap (a + b))) := by simp [xE3]
theorem xEQ : xE3 .sub (.int k a) (.int k b) = some (.int k (k.wrap (a - b))) := by simp [xE3]
theorem yBq : xE3 .mul (.int k a) (.int k b) = some (.int k (k.wrap (a * b))) := by simp [xE3]
theorem xVI (h : b ≠ 0) : xE3 .quo (.int k a) (.int k b) = some (.int k (k.wrap (a.tdiv b))) := by simp [xE3, h]
theorem xVJ (h : b ≠ 0) : xE3 .rem (.int k a) (.int k b) = some (.int k (a.tmod b)) := by simp [xE3, h]
theorem xCP : xE3 .and (.int k a) (.int k b) = some (.int k (xFC .and k a b)) := by simp [xE3]
theorem xHA : xE3 .or (.int k a) (.int k b) = some (.int k (xFC .or k a b)) := by simp [xE3]
theorem yBr : xE3 .xor (.int k a) (.int k b) = some (.int k (xFC .xor k a b)) := by simp [xE3]
theorem xXD : xE3 .andNot (.int k a) (.int k b) = some (.int k (xFC .andNot k a b)) := by simp [xE3]
theorem xDs (k' : IntKind) (h : 0 ≤ b) : xE3 .shl (.int k a) (.int k' b) = some (.int k (k.wrap (a * 2 ^ (min b.toNat k.bits)))) := by simp only [xE3]; rw [if_neg (by omega)]
theorem xCQ (k' : IntKind) (h : 0 ≤ b) : xE3 .shr (.int k a) (.int k' b) = some (.int k (a.fdiv (2 ^ (min b.toNat k.bits)))) := by simp only [xE3]; rw [if_neg (by omega)]
theorem xBK : xE3 .eql (.int k a) (.int k b) = some (.bool (decide (a = b))) := by simp [xE3]; rfl
theorem xA8 : xE3 .neq (.int k a) (.int k b) = some (.bool (!decide (a = b))) := by simp [xE3]; rfl
theorem xAL : xE3 .lss (.int k a) (.int k b) = some (.bool (decide (a < b))) := by simp [xE3]
theorem xDR : xE3 .leq (.int k a) (.int k b) = some (.bool (decide (a ≤ b))) := by simp [xE3]
theorem xBP : xE3 .gtr (.int k a) (.int k b) = some (.bool (decide (b < a))) := by simp [xE3]
theorem xCj : xE3 .geq (.int k a) (.int k b) = some (.bool (decide (b ≤ a))) := by simp [xE3]
end

def yBs (neg : Bool) : AV → AV → Option AV
  | .bool a, .bool b => some (.bool (if neg = true then a != b else a == b))
  | _, _ => none
theorem xUD (a b : Bool) : yBs false (.bool a) (.bool b) = some (.bool (decide (a = b))) := by cases a <;> cases b <;> rfl
theorem yCX (a b : Bool) : yBs true (.bool a) (.bool b) = some (.bool (!decide (a = b))) := by cases a <;> cases b <;> rfl
theorem xUE (neg : Bool) (x y : Arg) : xAm R F H (.beq neg x y) = xDU H (yBs neg (opv F x) (opv F y)) := by
  simp only [xAm]
  cases opv F x <;> cases opv F y <;> rfl
def xLF (neg : Bool) : AV → Option AV
  | .sl z _ _ => some (.bool (z != neg))
  | .own z _ _ _ _ => some (.bool (z != neg))
  | _ => none
theorem xXE (z : Bool) (n : Nat) (cs : List AV) : xLF false (.sl z n cs) = some (.bool z) := by cases z <;> rfl
theorem xXF (z : Bool) (n : Nat) (cs : List AV) : xLF true (.sl z n cs) = some (.bool (!z)) := by cases z <;> rfl
theorem xVK (z : Bool) (id off n es : Nat) : xLF false (.own z id off n es) = some (.bool z) := by cases z <;> rfl
theorem xVL (z : Bool) (id off n es : Nat) : xLF true (.own z id off n es) = some (.bool (!z)) := by cases z <;> rfl
theorem yAm (neg : Bool) (x : Arg) : xAm R F H (.isnil neg x) = xDU H (xLF neg (opv F x)) := by
  simp only [xAm]
  cases opv F x <;> rfl
theorem xGl (op : UnOp) (x : Arg) : xAm R F H (.un op x) = xDU H (unA op (opv F x)) := by
  simp only [xAm, xDU]
  cases unA op (opv F x) <;> rfl
theorem xEa (b : Bool) : unA .not (.bool b) = some (.bool !b) := rfl
theorem yCY (k : IntKind) (n : Int) : unA .neg (.int k n) = some (.int k (k.wrap (0 - n))) := rfl
theorem yCZ (k : IntKind) (n : Int) : unA .xor (.int k n) = some (.int k (xFC .xor k (if k.signed then -1 else k.max) n)) := rfl
def xYM (k : IntKind) : AV → Option AV
  | .int _ n => some (.int k (k.wrap n))
  | _ => none
theorem xC1 (k k' : IntKind) (n : Int) : xYM k (.int k' n) = some (.int k (k.wrap n)) := rfl
theorem xEb (k : IntKind) (x : Arg) : xAm R F H (.conv k x) = xDU H (xYM k (opv F x)) := by
  simp only [xAm]
  cases opv F x <;> rfl
theorem xEc (f : Nat) (caps : List Arg) : xAm R F H (.mkfunc f caps) = some (.func f (caps.map (opv F)), H) := rfl
def yC0 (fz : Bool) (z : List AV) (bytes : Nat) (H : xAA) : AV → AV → Option (AV × xAA)
  | .int _ l, .int _ c => if 0 ≤ l ∧ l ≤ c ∧ c * bytes ≤ xCV ∧ c ≤ xCV ∧ z.all AV.isCell = true then xFk fz false l.toNat z.length (xEg z l.toNat) H else none
  | _, _ => none
theorem xHP (fz : Bool) (z : List AV) (bytes : Nat) (k k' : IntKind) {l c : Int} (h1 : 0 ≤ l) (h2 : l ≤ c) (h3 : c * bytes ≤ 140737488355328) (h4 : c ≤ 140737488355328) (h5 : z.all AV.isCell = true) : yC0 fz z bytes H (.int k l) (.int k' c) = xFk fz false l.toNat z.length (xEg z l.toNat) H := if_pos ⟨h1, h2, h3, h4, h5⟩
theorem xFN (fz : Bool) (z : List AV) (bytes : Nat) (l c : Arg) : xAm R F H (.mkslice fz z bytes l c) = yC0 fz z bytes H (opv F l) (opv F c) := by
  simp only [xAm]
  cases opv F l <;> cases opv F c <;> rfl

def xVM (es : Nat) (H : xAA) (x : AV) : Option (Nat × Nat) → Option AV
  | none => none
  | some (l, h) => match x with
    | .sl z _ cs => some (.sl z (h - l) ((cs.drop (l * es)).take ((h - l) * es)))
    | .own z id off _ _ => some (.own z id (off + l * es) (h - l) es)
    | _ => none
def xN2 (es : Nat) (H : xAA) (lo hi mx : Option AV) : AV → Option AV
  | .sl z n cs => if cs.length = n * es then xVM es H (.sl z n cs) (xCM n lo hi mx) else none
  | .own z id off n es' => if es' = es then xVM es H (.own z id off n es') (xCM n lo hi mx) else none
  | _ => none
theorem xDt (es : Nat) (x : Arg) (lo hi mx : Option Arg) : xAm R F H (.slice es x lo hi mx) = xDU H (xN2 es H (lo.map (opv F)) (hi.map (opv F)) (mx.map (opv F)) (opv F x)) := by
  simp only [xAm, xDU, xN2, xVM]
  cases opv F x with
  | sl z n cs =>
    simp only
    split
    · cases xCM n (lo.map (opv F)) (hi.map (opv F)) (mx.map (opv F)) <;> rfl
    · rfl
  | own z id off n es' =>
    simp only
    split
    · cases xCM n (lo.map (opv F)) (hi.map (opv F)) (mx.map (opv F)) <;> rfl
    · rfl
  | _ => rfl
theorem xDu {es n : Nat} {z : Bool} {cs : List AV} (lo hi mx : Option AV) (h : cs.length = n * es) : xN2 es H lo hi mx (.sl z n cs) = xVM es H (.sl z n cs) (xCM n lo hi mx) := if_pos h
theorem xJO {es n id off : Nat} {z : Bool} (lo hi mx : Option AV) : xN2 es H lo hi mx (.own z id off n es) = xVM es H (.own z id off n es) (xCM n lo hi mx) := if_pos rfl
theorem xER (es : Nat) (z : Bool) (n : Nat) (cs : List AV) (l h : Nat) : xVM es H (.sl z n cs) (some (l, h)) = some (.sl z (h - l) ((cs.drop (l * es)).take ((h - l) * es))) := rfl
theorem xN3 (es : Nat) (z : Bool) (id off n es' : Nat) (l h : Nat) : xVM es H (.own z id off n es') (some (l, h)) = some (.own z id (off + l * es) (h - l) es) := rfl
theorem xYN (n : Nat) : xCM n none none none = some (0, n) := by simp [xCM]
theorem xYO {n : Nat} {k : IntKind} {l : Int} (h0 : 0 ≤ l) (h : l ≤ n) : xCM n (some (.int k l)) none none = some (l.toNat, n) := by
  simp only [xCM, xCx, if_pos h0]
  rw [if_pos ⟨by omega, by omega⟩]
theorem xDv {n : Nat} {k : IntKind} {m : Int} (h0 : 0 ≤ m) (h : m ≤ n) : xCM n none (some (.int k m)) none = some (0, m.toNat) := by
  simp only [xCM, xCx, if_pos h0]
  rw [if_pos ⟨by omega, by omega⟩]
theorem xYP {n : Nat} {k k' : IntKind} {l m : Int} (h0 : 0 ≤ l) (h1 : l ≤ m) (h : m ≤ n) : xCM n (some (.int k l)) (some (.int k' m)) none = some (l.toNat, m.toNat) := by
  have h2 : 0 ≤ m := by omega
  simp only [xCM, xCx, if_pos h0, if_pos h2]
  rw [if_pos ⟨by omega, by omega⟩]
def xQk (o : Nat) : AV → Option AV
  | .ptr id off => some (.ptr id (off + o))
  | .vptr cs off => some (.vptr cs (off + o))
  | _ => none
theorem xAQ (o id off : Nat) : xQk o (.ptr id off) = some (.ptr id (off + o)) := rfl
theorem xES (o : Nat) (cs : List AV) (off : Nat) : xQk o (.vptr cs off) = some (.vptr cs (off + o)) := rfl
theorem xA1 (o : Nat) (x : Arg) : xAm R F H (.faddr o x) = xDU H (xQk o (opv F x)) := by
  simp only [xAm]
  cases opv F x <;> rfl
def xQl (g : Bool) (off n : Nat) : AV → Option AV
  | .agg cs => if off + n ≤ cs.length then mkv g ((cs.drop off).take n) else none
  | _ => none
theorem xXG {g : Bool} {off n : Nat} {cs : List AV} (h : off + n ≤ cs.length) : xQl g off n (.agg cs) = mkv g ((cs.drop off).take n) := if_pos h
theorem xGm (v : AV) : mkv false [v] = some v := rfl
theorem xJt (cs : List AV) : mkv true cs = some (.agg cs) := rfl
theorem yAn (g : Bool) (off n : Nat) (x : Arg) : xAm R F H (.field g off n x) = xDU H (xQl g off n (opv F x)) := by
  simp only [xAm]
  cases opv F x with
  | agg cs =>
    simp only [xQl, xDU]
    split
    · cases mkv g ((cs.drop off).take n) <;> rfl
    · rfl
  | _ => rfl
def xJP (es : Nat) : AV → AV → Option AV
  | .sl _ n cs, .int _ i => if 0 ≤ i ∧ i.toNat < n then some (.vptr cs (i.toNat * es)) else none
  | .own _ id off n es', .int _ i => if 0 ≤ i ∧ i.toNat < n ∧ es' = es then some (.ptr id (off + i.toNat * es)) else none
  | _, _ => none
theorem xA6 {es n : Nat} {z : Bool} {cs : List AV} {k : IntKind} {i : Int} (h0 : 0 ≤ i) (h : i < n) : xJP es (.sl z n cs) (.int k i) = some (.vptr cs (i.toNat * es)) := if_pos ⟨h0, by omega⟩
theorem xBV {es n id off : Nat} {z : Bool} {k : IntKind} {i : Int} (h0 : 0 ≤ i) (h : i < n) : xJP es (.own z id off n es) (.int k i) = some (.ptr id (off + i.toNat * es)) := if_pos ⟨h0, by omega, rfl⟩
theorem xA4 (es : Nat) (x i : Arg) : xAm R F H (.iaddr es x i) = xDU H (xJP es (opv F x) (opv F i)) := by
  simp only [xAm]
  cases opv F x with
  | sl z n cs =>
    cases opv F i with
    | int k j =>
      simp only [xCx, xJP, xDU]
      by_cases h : 0 ≤ j
      · by_cases h2 : j.toNat < n <;> simp [h, h2]
      · simp [h]
    | _ => rfl
  | own z id off n es' =>
    cases opv F i with
    | int k j =>
      simp only [xCx, xJP, xDU]
      by_cases h : 0 ≤ j
      · by_cases h2 : j.toNat < n
        · by_cases h3 : es' = es <;> simp [h, h2, h3]
        · simp [h, h2]
      · simp [h]
    | _ => rfl
  | _ => cases opv F i <;> simp [xJP, xDU, xCx] <;> split <;> simp_all
def yBt (i : Nat) : AV → Option AV
  | .tup vs => vs[i]?
  | _ => none
theorem xDV (i : Nat) (vs : List AV) : yBt i (.tup vs) = vs[i]? := rfl
theorem xGD (i : Nat) (x : Arg) : xAm R F H (.ext i x) = xDU H (yBt i (opv F x)) := by
  simp only [xAm]
  cases opv F x with
  | tup vs => simp only [yBt, xDU]; cases vs[i]? <;> rfl
  | _ => rfl
def yBu : AV → Option AV
  | .sl _ n _ => some (.int .i64 n)
  | .own _ _ _ n _ => some (.int .i64 n)
  | _ => none
theorem xBf (z : Bool) (n : Nat) (cs : List AV) : yBu (.sl z n cs) = some (.int .i64 n) := rfl
theorem xDK (z : Bool) (id off n es : Nat) : yBu (.own z id off n es) = some (.int .i64 n) := rfl
theorem xBr (x : Arg) : xAm R F H (.len x) = xDU H (yBu (opv F x)) := by
  simp only [xAm]
  cases opv F x <;> rfl
theorem yC1 (x : Arg) : xAm R F H (.cap x) = match opv F x with
  | .sl true _ _ => some (.int .i64 0, H)
  | _ => none := rfl
def yBv (neg : Bool) (n : Nat) : AV → AV → Option AV
  | .agg cs, .agg ds => if cs.length = n then (xEf cs ds).map fun b => .bool (b != neg) else none
  | _, _ => none
theorem yAo {neg : Bool} {n : Nat} {cs ds : List AV} (h : cs.length = n) : yBv neg n (.agg cs) (.agg ds) = (xEf cs ds).map fun b => .bool (b != neg) := if_pos h
theorem yC2 (neg : Bool) (n : Nat) (x y : Arg) : xAm R F H (.aeq neg n x y) = xDU H (yBv neg n (opv F x) (opv F y)) := by
  simp only [xAm]
  cases opv F x with
  | agg cs => cases opv F y with
    | agg ds =>
      simp only [yBv, xDU]
      split
      · cases xEf cs ds <;> rfl
      · rfl
    | _ => rfl
  | _ => rfl

def xSl (fz : Bool) (es bytes : Nat) (H : xAA) (x : AV) : Option (Nat × List AV) → Option (AV × xAA)
  | none => none
  | some (m, ys) => match x with
    | .sl true _ _ => if m * bytes ≤ xCV ∧ m ≤ xCV then xFk fz (m == 0) m es ys H else none
    | .own z id off n es' => match H[id]? with
      | some (.cells false _ cs) => if off = 0 ∧ es' = es ∧ n * es ≤ cs.length ∧ (n + m) * bytes ≤ xCV ∧ n + m ≤ xCV then
          some (.own (z && m == 0) H.length 0 (n + m) es, H.set id .dead ++ [.cells false (z && m == 0) (cs.take (n * es) ++ ys)]) else none
      | _ => none
    | _ => none
theorem xB1 (fz : Bool) (es bytes : Nat) (x y : Arg) : xAm R F H (.append fz es bytes x y) = xSl fz es bytes H (opv F x) (src H es (opv F y)) := by
  simp only [xAm, xSl]
  cases src H es (opv F y) <;> rfl
theorem xDw {fz : Bool} {es bytes n m : Nat} {cs ys : List AV} (h : m * bytes ≤ 140737488355328) (h2 : m ≤ 140737488355328) : xSl fz es bytes H (.sl true n cs) (some (m, ys)) = xFk fz (m == 0) m es ys H := if_pos ⟨h, h2⟩
def xVN (es bytes n m : Nat) (H : xAA) (z : Bool) (id : Nat) (ys : List AV) : Option Blk → Option (AV × xAA)
  | some (.cells false _ cs) => if n * es ≤ cs.length ∧ (n + m) * bytes ≤ xCV ∧ n + m ≤ xCV then
      some (.own (z && m == 0) H.length 0 (n + m) es, H.set id .dead ++ [.cells false (z && m == 0) (cs.take (n * es) ++ ys)]) else none
  | _ => none
theorem xEo (fz : Bool) (es bytes n m id : Nat) (z : Bool) (ys : List AV) : xSl fz es bytes H (.own z id 0 n es) (some (m, ys)) = xVN es bytes n m H z id ys H[id]? := by
  simp only [xSl, xVN]
  split
  · rename_i z' cs hb
    by_cases h : n * es ≤ cs.length ∧ (n + m) * bytes ≤ xCV ∧ n + m ≤ xCV
    · rw [if_pos h, if_pos ⟨trivial, trivial, h⟩]
    · rw [if_neg h, if_neg (fun g => h g.2.2)]
  · rename_i hne
    cases hb : H[id]? with
    | none => rfl
    | some b => cases b with
      | cells fz z cs => cases fz with
        | false => exact (hne _ _ hb).elim
        | true => rfl
      | _ => rfl
theorem xDh {es bytes n m id : Nat} {z z' : Bool} {ys cs : List AV} (h : n * es ≤ cs.length) (h2 : (n + m) * bytes ≤ 140737488355328) (h3 : n + m ≤ 140737488355328) : xVN es bytes n m H z id ys (some (.cells false z' cs)) =
    some (.own (z && m == 0) H.length 0 (n + m) es, H.set id .dead ++ [.cells false (z && m == 0) (cs.take (n * es) ++ ys)]) := if_pos ⟨h, h2, h3⟩
theorem xDx {es n : Nat} {z : Bool} {cs : List AV} (h : cs.length = n * es) : src H es (.sl z n cs) = some (n, cs) := if_pos h
def yBw (off n es : Nat) : Option Blk → Option (Nat × List AV)
  | some (.cells _ _ cs) => if off + n * es ≤ cs.length then some (n, (cs.drop off).take (n * es)) else none
  | _ => none
theorem xQm (es n id off : Nat) (z : Bool) : src H es (.own z id off n es) = yBw off n es H[id]? := by
  simp only [src, yBw]
  cases H[id]? with
  | none => rfl
  | some b => cases b <;> simp
theorem xJQ {es n off : Nat} {fz z : Bool} {cs : List AV} (h : off + n * es ≤ cs.length) : yBw off n es (some (.cells fz z cs)) = some (n, (cs.drop off).take (n * es)) := if_pos h
def xLG (z : List AV) (bytes : Nat) (H : xAA) : AV → AV → Option (AV × xAA)
  | .sl true _ _, .int _ m => if 0 ≤ m ∧ m.toNat * bytes ≤ xCV ∧ m.toNat ≤ xCV ∧ z.all AV.isCell = true then xFk false (m.toNat == 0) m.toNat z.length (xEg z m.toNat) H else none
  | _, _ => none
theorem xXH (z : List AV) (bytes : Nat) (x n : Arg) : xAm R F H (.appendz z bytes x n) = xLG z bytes H (opv F x) (opv F n) := by
  simp only [xAm]
  cases hn : opv F n with
  | int k m =>
    simp only [xCx]
    by_cases h : 0 ≤ m
    · cases hx : opv F x with
      | sl zz nn cs => cases zz <;> simp [xLG, h]
      | _ => simp [xLG, h]
    · cases hx : opv F x with
      | sl zz nn cs => cases zz <;> simp [xLG, h]
      | _ => simp [xLG, h]
  | _ =>
    cases hx : opv F x with
    | sl zz nn cs => cases zz <;> simp [xLG, xCx]
    | _ => simp [xLG, xCx]
theorem xYQ {z : List AV} {bytes n : Nat} {cs : List AV} {k : IntKind} {m : Int} (h0 : 0 ≤ m) (h1 : m.toNat * bytes ≤ 140737488355328) (h2 : m.toNat ≤ 140737488355328) (h3 : z.all AV.isCell = true) : xLG z bytes H (.sl true n cs) (.int k m) = xFk false (m.toNat == 0) m.toNat z.length (xEg z m.toNat) H := if_pos ⟨h0, h1, h2, h3⟩
def yBx : AV → AV → Option AV
  | .int k a, .int _ b => some (.int k (max a b))
  | _, _ => none
def yBy : AV → AV → Option AV
  | .int k a, .int _ b => some (.int k (min a b))
  | _, _ => none
theorem xN4 (k k' : IntKind) (a b : Int) : yBx (.int k a) (.int k' b) = some (.int k (max a b)) := rfl
theorem xDW (k k' : IntKind) (a b : Int) : yBy (.int k a) (.int k' b) = some (.int k (min a b)) := rfl
theorem xQn (x y : Arg) : xAm R F H (.maxi x y) = xDU H (yBx (opv F x) (opv F y)) := by
  simp only [xAm]
  cases opv F x with
  | int k a => cases opv F y with
    | int k' b => simp only [yBx, xDU]; congr 3; split <;> omega
    | _ => rfl
  | _ => rfl
theorem xET (x y : Arg) : xAm R F H (.mini x y) = xDU H (yBy (opv F x) (opv F y)) := by
  simp only [xAm]
  cases opv F x with
  | int k a => cases opv F y with
    | int k' b => simp only [yBy, xDU]; congr 3; split <;> omega
    | _ => rfl
  | _ => rfl

theorem yC3 (z : List AV) : xEg z 0 = [] := rfl
theorem xDM (z : List AV) : xEg z 1 = z ++ ([]) := rfl
theorem yC4 (z : List AV) : xEg z 2 = z ++ (z ++ ([])) := rfl
theorem yC5 (z : List AV) : xEg z 3 = z ++ (z ++ (z ++ ([]))) := rfl
theorem yC6 (z : List AV) : xEg z 4 = z ++ (z ++ (z ++ (z ++ ([])))) := rfl
theorem yC7 (z : List AV) : xEg z 5 = z ++ (z ++ (z ++ (z ++ (z ++ ([]))))) := rfl
theorem yC8 (z : List AV) : xEg z 6 = z ++ (z ++ (z ++ (z ++ (z ++ (z ++ ([])))))) := rfl
theorem yC9 (z : List AV) : xEg z 7 = z ++ (z ++ (z ++ (z ++ (z ++ (z ++ (z ++ ([]))))))) := rfl
theorem yDa (z : List AV) : xEg z 8 = z ++ (z ++ (z ++ (z ++ (z ++ (z ++ (z ++ (z ++ ([])))))))) := rfl
theorem yDb (z : List AV) : xEg z 9 = z ++ (z ++ (z ++ (z ++ (z ++ (z ++ (z ++ (z ++ (z ++ ([]))))))))) := rfl
theorem yBz (z : List AV) : xEg z 10 = z ++ (z ++ (z ++ (z ++ (z ++ (z ++ (z ++ (z ++ (z ++ (z ++ ([])))))))))) := rfl
theorem yBA (z : List AV) : xEg z 11 = z ++ (z ++ (z ++ (z ++ (z ++ (z ++ (z ++ (z ++ (z ++ (z ++ (z ++ ([]))))))))))) := rfl
theorem yBB (z : List AV) : xEg z 12 = z ++ (z ++ (z ++ (z ++ (z ++ (z ++ (z ++ (z ++ (z ++ (z ++ (z ++ (z ++ ([])))))))))))) := rfl
theorem xAW (d : Nat) (k : IntKind) (n : Int) : frz d H (.int k n) = some (.int k n) := by cases d <;> rfl
theorem xB2 (d : Nat) (b : Bool) : frz d H (.bool b) = some (.bool b) := by cases d <;> rfl
theorem yBC (d : Nat) (b : ByteArray) : frz d H (.str b) = some (.str b) := by cases d <;> rfl
theorem yAp (d : Nat) : frz d H .nilp = some .nilp := by cases d <;> rfl
theorem yAq (d : Nat) : frz d H .nilf = some .nilf := by cases d <;> rfl
theorem yBD (d : Nat) : frz d H .any = some .any := by cases d <;> rfl
theorem yAr (d f : Nat) : frz d H (.func f []) = some (.func f []) := by cases d <;> rfl
theorem xBE (d : Nat) (z : Bool) (n : Nat) (cs : List AV) : frz d H (.sl z n cs) = some (.sl z n cs) := by cases d <;> rfl
theorem xBQ (d : Nat) (cs : List AV) : frz (d + 1) H (.agg cs) = (cs.mapM (frz d H)).map AV.agg := rfl
theorem xDS (d : Nat) (cs : List AV) : frz (d + 1) H (.tup cs) = (cs.mapM (frz d H)).map AV.tup := rfl
def yBE (d : Nat) (H : xAA) (z : Bool) (off n es : Nat) : Option Blk → Option AV
  | some (.cells _ _ cs) => if off + n * es ≤ cs.length then slK z n (((cs.drop off).take (n * es)).mapM (frz d H)) else none
  | _ => none
theorem xFn (d : Nat) (z : Bool) (id off n es : Nat) : frz (d + 1) H (.own z id off n es) = yBE d H z off n es H[id]? := by
  simp only [frz, yBE]
  cases H[id]? with
  | none => rfl
  | some b => cases b with
    | cells fz z' cs =>
      simp only
      split
      · cases ((cs.drop off).take (n * es)).mapM (frz d H) <;> rfl
      · rfl
    | _ => rfl
theorem xDj {d off n es : Nat} {z fz z' : Bool} {cs : List AV} (h : off + n * es ≤ cs.length) : yBE d H z off n es (some (.cells fz z' cs)) = slK z n (((cs.drop off).take (n * es)).mapM (frz d H)) := if_pos h

theorem xBR (d : Nat) (k : IntKind) (n : Int) : bor d H (.int k n) = [] := by cases d <;> rfl
theorem xN5 (d : Nat) (b : Bool) : bor d H (.bool b) = [] := by cases d <;> rfl
theorem yBF (d : Nat) (b : ByteArray) : bor d H (.str b) = [] := by cases d <;> rfl
theorem yAs (d : Nat) : bor d H .nilp = [] := by cases d <;> rfl
theorem yAt (d : Nat) : bor d H .nilf = [] := by cases d <;> rfl
theorem yBG (d : Nat) : bor d H .any = [] := by cases d <;> rfl
theorem yAu (d f : Nat) (cs : List AV) : bor d H (.func f cs) = [] := by cases d <;> rfl
theorem yDc (ss : List Nat) (b : ACode) (s : St) : run R (.fz ss b) s = run R b ⟨s.F, xCz s.H (ss.flatMap fun i => bor xBI s.H (s.F.getD i .any))⟩ := rfl
def yBH (R : Rec) (i : Nat) (b : ACode) (s : St) (ids : List Nat) : Option AV → Option (AExit × St)
  | some v => run R b ⟨s.F.set i v, xCz s.H ids⟩
  | none => none
theorem yBI (i : Nat) (b : ACode) (s : St) : run R (.fzs i b) s = yBH R i b s (bor xBI s.H (s.F.getD i .any)) (frz xBI s.H (s.F.getD i .any)) := by
  simp only [run, yBH]
  cases frz xBI s.H (s.F.getD i .any) <;> rfl
theorem xYR (i : Nat) (b : ACode) (s : St) (ids : List Nat) (v : AV) : yBH R i b s ids (some v) = run R b ⟨s.F.set i v, xCz s.H ids⟩ := rfl
def yBJ (d : Nat) (H : xAA) (off : Nat) : Option Blk → Option AV
  | some (.cells _ _ cs) => (cs.mapM (frz d H)).map fun cs' => .vptr cs' off
  | _ => none
theorem xQo (d i o : Nat) : frz (d + 1) H (.ptr i o) = yBJ d H o H[i]? := by
  simp only [frz, yBJ]
  cases H[i]? with
  | none => rfl
  | some b => cases b <;> rfl
theorem xJR (d : Nat) (o : Nat) (fz z : Bool) (cs : List AV) : yBJ d H o (some (.cells fz z cs)) = (cs.mapM (frz d H)).map fun cs' => .vptr cs' o := rfl
theorem yAv (d : Nat) (cs : List AV) (o : Nat) : frz d H (.vptr cs o) = some (.vptr cs o) := by cases d <;> rfl
def xVO (d : Nat) (H : xAA) : Option Blk → List Nat
  | some (.cells _ _ cs) => cs.flatMap (bor d H)
  | _ => []
theorem xQp (d i o : Nat) : bor (d + 1) H (.ptr i o) = i :: xVO d H H[i]? := by
  simp only [bor, xVO]
  cases H[i]? with
  | none => rfl
  | some b => cases b <;> rfl
theorem xIw (d : Nat) (fz z : Bool) (cs : List AV) : xVO d H (some (.cells fz z cs)) = cs.flatMap (bor d H) := rfl
theorem yAw (d : Nat) (cs : List AV) (o : Nat) : bor d H (.vptr cs o) = [] := by cases d <;> rfl
def xVP : Option Blk → Bool
  | some (.cells true _ _) => true
  | _ => false
theorem xJS (i : Nat) : xHn H i = xVP H[i]? := by
  simp only [xHn, xVP]
  cases H[i]? with
  | none => rfl
  | some b => cases b with
    | cells fz z cs => cases fz <;> rfl
    | _ => rfl
theorem yBK (z : Bool) (cs : List AV) : xVP (some (.cells true z cs)) = true := rfl
theorem xDk (d : Nat) (z : Bool) (n : Nat) (cs : List AV) : bor d H (.sl z n cs) = [] := by cases d <;> rfl
theorem xEv (d : Nat) (cs : List AV) : bor (d + 1) H (.agg cs) = cs.flatMap (bor d H) := rfl
theorem yBL (d : Nat) (cs : List AV) : bor (d + 1) H (.tup cs) = cs.flatMap (bor d H) := rfl
def yBM (d : Nat) (H : xAA) (off n es : Nat) : Option Blk → List Nat
  | some (.cells _ _ cs) => ((cs.drop off).take (n * es)).flatMap (bor d H)
  | _ => []
theorem xMS (d : Nat) (z : Bool) (id off n es : Nat) : bor (d + 1) H (.own z id off n es) = id :: yBM d H off n es H[id]? := by
  simp only [bor, yBM]
  cases H[id]? with
  | none => rfl
  | some b => cases b <;> rfl
theorem xHa (d off n es : Nat) (fz z : Bool) (cs : List AV) : yBM d H off n es (some (.cells fz z cs)) = ((cs.drop off).take (n * es)).flatMap (bor d H) := rfl

def xUF (args : List AV) (H : xAA) : Option AV → Option (AV × xAA)
  | some r => some (r, if xCZ r = true then H else xCz H (args.flatMap (bor xBI H)))
  | none => none
theorem xAX (args : List AV) (r : AV) : xUF args H (some r) = some (r, if xCZ r = true then H else xCz H (args.flatMap (bor xBI H))) := rfl
theorem xYS (args : List AV) : xUF args H none = none := rfl
theorem yAx (args : List AV) {c : Prop} [Decidable c] (x y : Option AV) : xUF args H (if c then x else y) = if c then xUF args H x else xUF args H y := by split <;> rfl
def yBN (R : Rec) (f : Nat) (args : List AV) (H : xAA) : Option (List AV) → Option (AV × xAA)
  | some args' => xUF args H (R.pcall f args')
  | none => none
theorem xAY (f : Nat) (args args' : List AV) : yBN R f args H (some args') = xUF args H (R.pcall f args') := rfl
theorem xAZ (f : Nat) (args : List AV) : xCX R f args H = yBN R f args H (args.mapM (frz xBI H)) := by
  simp only [xCX, yBN]
  cases args.mapM (frz xBI H) with
  | none => rfl
  | some args' => simp only [xUF]; cases R.pcall f args' <;> rfl
theorem xBi (f : Nat) (args : List Arg) : xAm R F H (.call f args) = xCX R f (args.map (opv F)) H := rfl
theorem xBY (f : Arg) (args : List Arg) : xAm R F H (.icall f args) = R.icall (opv F f) (args.map (opv F)) H := rfl
def xUG (R : Rec) (args : List AV) (H : xAA) : AV → Option (AV × xAA)
  | .func g caps => xCX R g (args ++ caps) H
  | _ => none
theorem xVQ (args : List AV) (g : Nat) (caps : List AV) : xUG R args H (.func g caps) = xCX R g (args ++ caps) H := rfl
theorem yAy (f : Arg) (args : List Arg) : xAm R F H (.fcall f args) = xUG R (args.map (opv F)) H (opv F f) := by
  simp only [xAm]
  cases opv F f <;> rfl

def xGb (args : List AV) (H : xAA) : Option (AV × xAA) → Option (AV × xAA)
  | some (r, _) => if xCd r H args = true then some (r, H) else none
  | none => none
theorem xCo (args : List AV) (r : AV) (H' : xAA) : xGb args H (some (r, H')) = if xCd r H args = true then some (r, H) else none := rfl
theorem xVR (args : List AV) : xGb args H none = none := rfl
theorem xXI (args : List AV) {c : Prop} [Decidable c] (x y : Option (AV × xAA)) : xGb args H (if c then x else y) = if c then xGb args H x else xGb args H y := by split <;> rfl
theorem xEU (f : Nat) (args : List Arg) : xBW R F H (.call f args) = xGb (args.map (opv F)) H (xCX R f (args.map (opv F)) H) := by
  simp only [xBW, xBv, xGb]
  cases xCX R f (args.map (opv F)) H with
  | none => rfl
  | some r => obtain ⟨r, H'⟩ := r; simp only; split <;> rfl
def xMT (R : Rec) (args : List AV) (H : xAA) : AV → Option (AV × xAA)
  | .func g caps => xGb (args ++ caps) H (xCX R g (args ++ caps) H)
  | _ => none
theorem xHB (args : List AV) (g : Nat) (caps : List AV) : xMT R args H (.func g caps) = xGb (args ++ caps) H (xCX R g (args ++ caps) H) := rfl
theorem xN6 (f : Arg) (args : List Arg) : xBW R F H (.fcall f args) = xMT R (args.map (opv F)) H (opv F f) := by
  simp only [xBW, xBv, xGb, xMT]
  cases opv F f with
  | func g caps =>
    simp only
    cases xCX R g (args.map (opv F) ++ caps) H with
    | none => rfl
    | some r => obtain ⟨r, H'⟩ := r; simp only; split <;> rfl
  | _ => rfl
theorem xJT (v : AV) : xBW R F H (.box (.c v)) = if v.cells.all AV.isCell = true then some (.any, H) else none := by
  simp only [xBW, xBv]
  split <;> rfl
def xFb (H : xAA) : Option (AV × xAA) → Option (AV × xAA)
  | some (v, _) => some (v, H)
  | none => none
theorem xBB (v : AV) (H' : xAA) : xFb H (some (v, H')) = some (v, H) := rfl
theorem xYT : xFb H none = none := rfl
theorem yAz {c : Prop} [Decidable c] (x y : Option (AV × xAA)) : xFb H (if c then x else y) = if c then xFb H x else xFb H y := by split <;> rfl
theorem xDA (op : AOp) (h : xBv R F H op = (xAm R F H op).map (·.1)) : xBW R F H op = xFb H (xAm R F H op) := by
  simp only [xBW, h, xFb]
  cases xAm R F H op <;> rfl
theorem xCU (x : Arg) : xBW R F H (.mov x) = xFb H (xAm R F H (.mov x)) := xDA _ rfl
theorem xFo (c a b : Arg) : xBW R F H (.pick c a b) = xFb H (xAm R F H (.pick c a b)) := xDA _ rfl
theorem xN7 (z : List AV) (parts : List (Nat × Nat × Arg)) : xBW R F H (.build z parts) = xFb H (xAm R F H (.build z parts)) := xDA _ rfl
theorem xYU (z : List AV) (es n : Nat) (parts : List (Nat × Arg)) : xBW R F H (.bslice true z es n parts) = xFb H (xAm R F H (.bslice true z es n parts)) := xDA _ rfl
theorem xB4 (g : Bool) (n : Nat) (p : Arg) : xBW R F H (.load g n p) = xFb H (xAm R F H (.load g n p)) := xDA _ rfl
theorem xYV (x : Arg) : xBW R F H (.nilchk x) = xFb H (xAm R F H (.nilchk x)) := xDA _ rfl
theorem xGc (op : BinOp) (x y : Arg) : xBW R F H (.bin op x y) = xFb H (xAm R F H (.bin op x y)) := xDA _ rfl
theorem yDd (neg : Bool) (x y : Arg) : xBW R F H (.beq neg x y) = xFb H (xAm R F H (.beq neg x y)) := xDA _ rfl
theorem yAA (neg : Bool) (x : Arg) : xBW R F H (.isnil neg x) = xFb H (xAm R F H (.isnil neg x)) := xDA _ rfl
theorem yEq (op : UnOp) (x : Arg) : xBW R F H (.un op x) = xFb H (xAm R F H (.un op x)) := xDA _ rfl
theorem xFp (k : IntKind) (x : Arg) : xBW R F H (.conv k x) = xFb H (xAm R F H (.conv k x)) := xDA _ rfl
theorem xYW (f : Nat) (caps : List Arg) : xBW R F H (.mkfunc f caps) = xFb H (xAm R F H (.mkfunc f caps)) := xDA _ rfl
theorem xXJ (z : List AV) (bytes : Nat) (l c : Arg) : xBW R F H (.mkslice true z bytes l c) = xFb H (xAm R F H (.mkslice true z bytes l c)) := xDA _ rfl
theorem xFO (es : Nat) (x : Arg) (lo hi mx : Option Arg) : xBW R F H (.slice es x lo hi mx) = xFb H (xAm R F H (.slice es x lo hi mx)) := xDA _ rfl
theorem xCs (o : Nat) (x : Arg) : xBW R F H (.faddr o x) = xFb H (xAm R F H (.faddr o x)) := xDA _ rfl
theorem yAB (g : Bool) (off n : Nat) (x : Arg) : xBW R F H (.field g off n x) = xFb H (xAm R F H (.field g off n x)) := xDA _ rfl
theorem xCC (es : Nat) (x i : Arg) : xBW R F H (.iaddr es x i) = xFb H (xAm R F H (.iaddr es x i)) := xDA _ rfl
theorem yDe (i : Nat) (x : Arg) : xBW R F H (.ext i x) = xFb H (xAm R F H (.ext i x)) := xDA _ rfl
theorem xJU (x : Arg) : xBW R F H (.len x) = xFb H (xAm R F H (.len x)) := xDA _ rfl
theorem yDf (x : Arg) : xBW R F H (.cap x) = xFb H (xAm R F H (.cap x)) := xDA _ rfl
theorem yDg (neg : Bool) (n : Nat) (x y : Arg) : xBW R F H (.aeq neg n x y) = xFb H (xAm R F H (.aeq neg n x y)) := xDA _ rfl
theorem yBO (x y : Arg) : xBW R F H (.maxi x y) = xFb H (xAm R F H (.maxi x y)) := xDA _ rfl
theorem xHb (x y : Arg) : xBW R F H (.mini x y) = xFb H (xAm R F H (.mini x y)) := xDA _ rfl
def xVS (es bytes : Nat) (H : xAA) (x : AV) (o : Option (Nat × List AV)) : Option (AV × xAA) := match x with
  | .sl _ _ _ => xFb H (xSl true es bytes H x o)
  | _ => none
theorem yAC (es bytes : Nat) (z : Bool) (n : Nat) (cs : List AV) (o : Option (Nat × List AV)) : xVS es bytes H (.sl z n cs) o = xFb H (xSl true es bytes H (.sl z n cs) o) := rfl
theorem xYX (es bytes : Nat) (x y : Arg) : xBW R F H (.append true es bytes x y) = xVS es bytes H (opv F x) (src H es (opv F y)) := by
  simp only [xBW, xBv, xVS]
  cases h : opv F x with
  | sl z n cs =>
    simp only [xB1, h, xFb]
    cases xSl true es bytes H (.sl z n cs) (src H es (opv F y)) <;> rfl
  | _ => rfl

def xON (H : xAA) : Option AV → Option (AV × xAA)
  | some v => some (v, H)
  | none => none
theorem xAr (v : AV) : xON H (some v) = some (v, H) := rfl
def xLH (rs : List ARes) : Option (AExit × St) → Option (AV × xAA)
  | some (.normal, s) => xON s.H (xC9 rs s)
  | some (.ret, s) => xON s.H (xC9 rs s)
  | _ => none
theorem xLI (rs : List ARes) (F : List AV) (H : xAA) : xLH rs (some (.normal, ⟨F, H⟩)) = xON H (xC9 rs ⟨F, H⟩) := rfl
theorem xAx (rs : List ARes) (F : List AV) (H : xAA) : xLH rs (some (.ret, ⟨F, H⟩)) = xON H (xC9 rs ⟨F, H⟩) := rfl
theorem xXK (rs : List ARes) : xLH rs none = none := rfl
theorem xYY (rs : List ARes) {c : Prop} [Decidable c] (x y : Option (AExit × St)) : xLH rs (if c then x else y) = if c then xLH rs x else xLH rs y := by split <;> rfl
def xB8 : Nat → List AV
  | 0 => []
  | n + 1 => .tup [] :: xB8 n
theorem xQq : ∀ n, List.replicate n (AV.tup []) = xB8 n
  | 0 => rfl
  | n + 1 => by rw [List.replicate_succ, xQq n]; rfl
theorem xAI (n : Nat) (code : ACode) (rs : List ARes) (args : List AV) : xBD R ⟨n, code, rs⟩ args H = xLH rs (run R code ⟨args ++ xB8 (n - args.length), H⟩) := by
  rw [← xQq]
  simp only [xBD, xLH, xMl, xON]
  cases h : run R code ⟨args ++ List.replicate (n - args.length) (.tup []), H⟩ with
  | none => rfl
  | some r =>
    obtain ⟨e, s⟩ := r
    cases e with
    | exit i => rfl
    | _ => simp only; cases xC9 rs s <;> rfl
def xIx : Option (AV × xAA) → Option AV
  | some (r, H') => frz xBI H' r
  | none => none
theorem xAt (r : AV) (H' : xAA) : xIx (some (r, H')) = frz xBI H' r := rfl
theorem xVT : xIx none = none := rfl
theorem xXL {c : Prop} [Decidable c] (x y : Option (AV × xAA)) : xIx (if c then x else y) = if c then xIx x else xIx y := by split <;> rfl
theorem xAT (fn : AFunc) (args : List AV) : xBc R fn args = xIx (xBD R fn args []) := by
  simp only [xBc, xIx]
  cases xBD R fn args [] <;> rfl
def xVU (g : Bool) : Option (List AV) → Option AV
  | some cs => mkv g cs
  | none => none
theorem xD3 (g : Bool) (cs : List AV) : xVU g (some cs) = mkv g cs := rfl
theorem xAU (t : Nat) : xRc ⟨F, H⟩ (.tmp t) = some (F.getD t .any) := rfl
theorem xFP (t : Nat) (g : Bool) (n : Nat) : xRc ⟨F, H⟩ (.cell t g n) = xVU g (rd H (F.getD t .any) n) := by
  simp only [xRc, xVU]
  cases rd H (F.getD t .any) n <;> rfl
theorem xQr : xC9 [] s = some (.tup []) := rfl
theorem xAF (r : ARes) : xC9 [r] s = xRc s r := rfl
def yBP (s : St) (rs : List ARes) : Option AV → Option (List AV)
  | some v => (xPg s rs).map (v :: ·)
  | none => none
theorem xCF (rs : List ARes) (v : AV) : yBP s rs (some v) = (xPg s rs).map (v :: ·) := rfl
theorem xC5 : xPg s [] = some [] := rfl
theorem xCG (r : ARes) (rs : List ARes) : xPg s (r :: rs) = yBP s rs (xRc s r) := by
  simp only [xPg, yBP]
  cases xRc s r <;> rfl
theorem xCH (r r' : ARes) (rs : List ARes) : xC9 (r :: r' :: rs) s = (xPg s (r :: r' :: rs)).map .tup := rfl

def xGE (F : List AV) (l : Nat) : Option (AV × xAA) → Option (AExit × St)
  | some (_, H') => match H'[l]? with
    | some (.loop st pend _ _ _ _) => if st = 1 then none else some ((match pend with | none => .normal | some e => e), ⟨F, H'.set l .dead⟩)
    | _ => none
  | none => none
def xQs (R : Rec) (F : List AV) (H : xAA) (ps : List Nat) (asg body : ACode) : AV → Option (AExit × St)
  | .func g caps => xGE F H.length (R.icall (.func g caps) [.yield H.length] (H ++ [.loop 0 none F ps asg body]))
  | _ => none
theorem xYZ (f : Arg) (ps : List Nat) (asg body : ACode) (F : List AV) (H : xAA) : run R (.range f ps asg body) ⟨F, H⟩ = xQs R F H ps asg body (opv F f) := by
  simp only [run]
  cases opv F f with
  | func g caps =>
    simp only [xQs, xGE]
    cases R.icall (.func g caps) [.yield H.length] (H ++ [.loop 0 none F ps asg body]) with
    | none => rfl
    | some r =>
      obtain ⟨v, H'⟩ := r
      simp only
      cases H'[H.length]? with
      | none => rfl
      | some b => cases b <;> rfl
  | _ => rfl
theorem xVV (ps : List Nat) (asg body : ACode) (g : Nat) (caps : List AV) : xQs R F H ps asg body (.func g caps) = xGE F H.length (R.icall (.func g caps) [.yield H.length] (H ++ [.loop 0 none F ps asg body])) := rfl

def xGF (l : Nat) (e : AExit) (H : xAA) : Option Blk → Option (AV × xAA)
  | some (.loop 1 _ F ps asg body) => some (match e with
    | .normal => (.bool true, H.set l (.loop 0 none F ps asg body))
    | e => (.bool false, H.set l (.loop 2 (some e) F ps asg body)))
  | _ => none
def xEd (l : Nat) : Option (AExit × St) → Option (AV × xAA)
  | some (e, s) => xGF l e s.H s.H[l]?
  | none => none
def xHQ (R : Rec) (l : Nat) (body0 : ACode) (s : St) : Option Blk → Option (AV × xAA)
  | some (.loop 0 pend F ps asg body) => xEd l (run R body0 ⟨s.F, s.H.set l (.loop 1 pend F ps asg body)⟩)
  | _ => none
def xHR (R : Rec) (l : Nat) (body0 : ACode) : Option (AExit × St) → Option (AV × xAA)
  | some (.normal, s) => xHQ R l body0 s s.H[l]?
  | _ => none
def yDh (R : Rec) (l : Nat) (args : List AV) (H : xAA) : Option Blk → Option (AV × xAA)
  | some (.loop 0 _ F ps asg body) => if args.length = ps.length ∧ asg.noRange = true ∧ body.noRange = true then xHR R l body (run R asg ⟨(ps.zip args).foldl (fun F (p, v) => F.set p v) F, H⟩) else none
  | _ => none
theorem xY0 (l : Nat) (args : List AV) (H : xAA) (asg body : ACode) (F : List AV) (ps : List Nat) (pend : Option AExit) (hH : H[l]? = some (.loop 0 pend F ps asg body)) (h1 : args.length = ps.length) (h2 : asg.noRange = true) (h3 : body.noRange = true) :
    xGU R l args H = xHR R l body (run R asg ⟨(ps.zip args).foldl (fun F (p, v) => F.set p v) F, H⟩) := by
  unfold xGU
  rw [hH]
  simp only
  rw [if_pos ⟨h1, h2, h3⟩]
  cases ha : run R asg ⟨(ps.zip args).foldl (fun F (p, v) => F.set p v) F, H⟩ with
  | none => rfl
  | some r =>
    obtain ⟨e, s1⟩ := r
    cases e with
    | normal =>
      simp only [xHR]
      cases hb : s1.H[l]? with
      | none => rfl
      | some b =>
        cases b with
        | loop st pend1 F1 ps1 asg1 body1 =>
          match st with
          | 0 =>
            simp only [xHQ]
            cases hr : run R body ⟨s1.F, s1.H.set l (.loop 1 pend1 F1 ps1 asg1 body1)⟩ with
            | none => rfl
            | some r =>
              obtain ⟨e, s2⟩ := r
              simp only [xEd]
              cases hc : s2.H[l]? with
              | none => rfl
              | some b =>
                cases b with
                | loop st2 pend2 F2 ps2 asg2 body2 =>
                  match st2 with
                  | 0 => rfl
                  | 1 => rfl
                  | _ + 2 => rfl
                | _ => rfl
          | _ + 1 => rfl
        | _ => rfl
    | _ => rfl
theorem xQt (l : Nat) (body0 : ACode) (F : List AV) (H : xAA) : xHR R l body0 (some (.normal, ⟨F, H⟩)) = xHQ R l body0 ⟨F, H⟩ H[l]? := rfl
theorem xSN (l : Nat) (body0 : ACode) (F : List AV) (H : xAA) (pend : Option AExit) (F1 : List AV) (ps : List Nat) (asg body : ACode) : xHQ R l body0 ⟨F, H⟩ (some (.loop 0 pend F1 ps asg body)) = xEd l (run R body0 ⟨F, H.set l (.loop 1 pend F1 ps asg body)⟩) := rfl
theorem xSm (l : Nat) (e : AExit) (F : List AV) (H : xAA) : xEd l (some (e, ⟨F, H⟩)) = xGF l e H H[l]? := rfl
theorem xSO (l : Nat) {c : Prop} [Decidable c] (x y : Option (AExit × St)) : xEd l (if c then x else y) = if c then xEd l x else xEd l y := by split <;> rfl
theorem xQu (l : Nat) (H : xAA) (pend : Option AExit) (F : List AV) (ps : List Nat) (asg body : ACode) : xGF l .normal H (some (.loop 1 pend F ps asg body)) = some (.bool true, H.set l (.loop 0 none F ps asg body)) := rfl
theorem xSP (l i : Nat) (H : xAA) (pend : Option AExit) (F : List AV) (ps : List Nat) (asg body : ACode) : xGF l (.exit i) H (some (.loop 1 pend F ps asg body)) = some (.bool false, H.set l (.loop 2 (some (.exit i)) F ps asg body)) := rfl
theorem xUH (l : Nat) (H : xAA) (pend : Option AExit) (F : List AV) (ps : List Nat) (asg body : ACode) : xGF l .ret H (some (.loop 1 pend F ps asg body)) = some (.bool false, H.set l (.loop 2 (some .ret) F ps asg body)) := rfl
def xHS (F : List AV) (l : Nat) (H : xAA) : Option Blk → Option (AExit × St)
  | some (.loop st pend _ _ _ _) => if st = 1 then none else some ((match pend with | none => .normal | some e => e), ⟨F, H.set l .dead⟩)
  | _ => none
theorem xSQ (l : Nat) (v : AV) (H : xAA) : xGE F l (some (v, H)) = xHS F l H H[l]? := by
  simp only [xGE, xHS]
theorem xXM (l : Nat) (H : xAA) (F1 : List AV) (ps : List Nat) (asg body : ACode) : xHS F l H (some (.loop 0 none F1 ps asg body)) = some (.normal, ⟨F, H.set l .dead⟩) := rfl
theorem xXN (l : Nat) (H : xAA) (e : AExit) (F1 : List AV) (ps : List Nat) (asg body : ACode) : xHS F l H (some (.loop 2 (some e) F1 ps asg body)) = some (e, ⟨F, H.set l .dead⟩) := rfl
end
section
variable {R : Rec} {F : List AV} {H : xAA} {s : St}
def xQv : Option (AV × xAA) → Option (AV × List Blk)
  | some (r, H') => (xEA H' r).map fun (v, B) => (v, B.map (·.2))
  | none => none
theorem xLJ (f : Nat) (args : List AV) : xEu R f args = xQv (R.icall (.func f []) args []) := by
  unfold xEu xQv
  cases R.icall (.func f []) args [] <;> rfl
theorem xIy (r : AV) (H' : xAA) : xQv (some (r, H')) = (xEA H' r).map fun (v, B) => (v, B.map (·.2)) := rfl
def ocK (H : xAA) (ids : List Nat) : Option (AV × List Blk) → Option (AV × xAA)
  | some (v, B) => some (xGu H.length v, xCz H ids ++ B)
  | none => none
def xQw (R : Rec) (f : Nat) (H : xAA) (ids : List Nat) : Option (List AV) → Option (AV × xAA)
  | some args' => ocK H ids (xEu R f args')
  | none => none
theorem yAD (f : Nat) (args : List Arg) : xAm R F H (.ocall f args) = xQw R f H ((args.map (opv F)).flatMap (bor xBI H)) ((args.map (opv F)).mapM (frz xBI H)) := by
  simp only [xAm, xQw]
  cases (args.map (opv F)).mapM (frz xBI H) with
  | none => rfl
  | some args' =>
    simp only [ocK]
    cases xEu R f args' <;> rfl
theorem xVW (f : Nat) (ids : List Nat) (args' : List AV) : xQw R f H ids (some args') = ocK H ids (xEu R f args') := rfl
theorem yAE (ids : List Nat) (v : AV) (B : List Blk) : ocK H ids (some (v, B)) = some (xGu H.length v, xCz H ids ++ B) := rfl

def t1B (z : Bool) (id off n es : Nat) (B : List (Nat × Blk)) : Option Blk → Option (AV × List (Nat × Blk))
  | some (.cells false z' cs) => if cs.all xCA = true then some (.own z B.length off n es, B ++ [(id, .cells false z' cs)]) else none
  | _ => none
def t1I (z : Bool) (id off n es : Nat) (B : List (Nat × Blk)) (b : Option Blk) : Option Nat → Option (AV × List (Nat × Blk))
  | some k => some (.own z k off n es, B)
  | none => t1B z id off n es B b
theorem xLK (H : xAA) (z : Bool) (id off n es : Nat) (B : List (Nat × Blk)) : xF7 H (.own z id off n es) B = t1I z id off n es B H[id]? (B.findIdx? (fun p => p.1 == id)) := by
  simp only [xF7, t1I]
  cases B.findIdx? (fun p => p.1 == id) with
  | some k => rfl
  | none =>
    simp only [t1B]
    cases H[id]? with
    | none => rfl
    | some b => cases b with
      | cells fz z' cs => cases fz <;> rfl
      | _ => rfl
theorem yBQ (z : Bool) (id off n es : Nat) (B : List (Nat × Blk)) (b : Option Blk) (k : Nat) : t1I z id off n es B b (some k) = some (.own z k off n es, B) := rfl
theorem xQx (z : Bool) (id off n es : Nat) (B : List (Nat × Blk)) (z' : Bool) (cs : List AV) : t1I z id off n es B (some (.cells false z' cs)) none = if cs.all xCA = true then some (.own z B.length off n es, B ++ [(id, .cells false z' cs)]) else none := rfl
theorem xY1 (H : xAA) (k : IntKind) (n : Int) (B : List (Nat × Blk)) : xF7 H (.int k n) B = some (.int k n, B) := rfl
theorem xXO (H : xAA) (b : Bool) (B : List (Nat × Blk)) : xF7 H (.bool b) B = some (.bool b, B) := rfl
theorem yAF (H : xAA) (z : Bool) (n : Nat) (cs : List AV) (B : List (Nat × Blk)) : xF7 H (.sl z n cs) B = some (.sl z n cs, B) := rfl
theorem xY2 (H : xAA) (b : ByteArray) (B : List (Nat × Blk)) : xF7 H (.str b) B = some (.str b, B) := rfl
def tkL (H : xAA) (vs : List AV) : Option (AV × List (Nat × Blk)) → Option (List AV × List (Nat × Blk))
  | some (v', B') => (xI1 H vs B').map fun (vs', B2) => (v' :: vs', B2)
  | none => none
theorem xY3 (H : xAA) (B : List (Nat × Blk)) : xI1 H [] B = some ([], B) := rfl
theorem xXP (H : xAA) (v : AV) (vs : List AV) (B : List (Nat × Blk)) : xI1 H (v :: vs) B = tkL H vs (xF7 H v B) := by
  simp only [xI1, tkL]
  cases xF7 H v B <;> rfl
theorem yAG (H : xAA) (vs : List AV) (v' : AV) (B' : List (Nat × Blk)) : tkL H vs (some (v', B')) = (xI1 H vs B').map fun (vs', B2) => (v' :: vs', B2) := rfl
theorem xY4 (H : xAA) (cs : List AV) (B : List (Nat × Blk)) : xGT H (.agg cs) B = if cs.all AV.isCell = true then (xI1 H cs B).map fun (cs', B') => (.agg cs', B') else none := rfl
theorem xY5 (H : xAA) (z : Bool) (id off n es : Nat) (B : List (Nat × Blk)) : xGT H (.own z id off n es) B = xF7 H (.own z id off n es) B := rfl
theorem xY6 (H : xAA) (k : IntKind) (n : Int) (B : List (Nat × Blk)) : xGT H (.int k n) B = some (.int k n, B) := rfl
theorem xXQ (H : xAA) (b : Bool) (B : List (Nat × Blk)) : xGT H (.bool b) B = some (.bool b, B) := rfl
theorem yAH (H : xAA) (z : Bool) (n : Nat) (cs : List AV) (B : List (Nat × Blk)) : xGT H (.sl z n cs) B = some (.sl z n cs, B) := rfl
def yBR (H : xAA) (vs : List AV) : Option (AV × List (Nat × Blk)) → Option (List AV × List (Nat × Blk))
  | some (v', B') => (xFD H vs B').map fun (vs', B2) => (v' :: vs', B2)
  | none => none
theorem xXR (H : xAA) (B : List (Nat × Blk)) : xFD H [] B = some ([], B) := rfl
theorem xVX (H : xAA) (v : AV) (vs : List AV) (B : List (Nat × Blk)) : xFD H (v :: vs) B = yBR H vs (xGT H v B) := by
  simp only [xFD, yBR]
  cases xGT H v B <;> rfl
theorem xY7 (H : xAA) (vs : List AV) (v' : AV) (B' : List (Nat × Blk)) : yBR H vs (some (v', B')) = (xFD H vs B').map fun (vs', B2) => (v' :: vs', B2) := rfl
theorem xVY (H : xAA) (vs : List AV) : xEA H (.tup vs) = (xFD H vs []).map fun (vs', B) => (.tup vs', B) := rfl
theorem xVZ (H : xAA) (cs : List AV) : xEA H (.agg cs) = xGT H (.agg cs) [] := rfl
theorem xIz (H : xAA) (z : Bool) (id off n es : Nat) : xEA H (.own z id off n es) = xF7 H (.own z id off n es) [] := rfl
theorem xXS (H : xAA) (z : Bool) (n : Nat) (cs : List AV) : xEA H (.sl z n cs) = some (.sl z n cs, []) := rfl

theorem xLL {α : Type} (p : α → Bool) : ([] : List α).findIdx? p = none := rfl
theorem xXT {α : Type} (p : α → Bool) (a : α) (l : List α) : (a :: l).findIdx? p = if p a = true then some 0 else (l.findIdx? p).map (· + 1) := by
  rw [List.findIdx?_cons]

def xQy (R : Rec) (als : List (Nat × Nat)) (ls : List (Nat × Nat × Nat × Nat)) (m : Nat) (ops : List AOper) : Option (St × List Pr) → Option (AExit × St)
  | some (s, pl) => xD9 ls (xBJ R (ops.drop m) (xCN als pl s))
  | none => none
theorem xY8 (als : List (Nat × Nat)) (ls : List (Nat × Nat × Nat × Nat)) (m : Nat) (ops : List AOper) : run R (.drawp als ls m ops) s = xQy R als ls m ops (xBO R (ops.take m) s) := by
  simp only [run, xQy]
  cases xBO R (ops.take m) s with
  | none => rfl
  | some r =>
    obtain ⟨s1, pl⟩ := r
    simp only [xD9]
    cases xBJ R (ops.drop m) (xCN als pl s1) <;> rfl
theorem xV0 (als : List (Nat × Nat)) (ls : List (Nat × Nat × Nat × Nat)) (m : Nat) (ops : List AOper) (s : St) (pl : List Pr) : xQy R als ls m ops (some (s, pl)) = xD9 ls (xBJ R (ops.drop m) (xCN als pl s)) := rfl
theorem xFQ (pl : List Pr) (s : St) : xCN [] pl s = xB0 pl s := rfl
def alK (als : List (Nat × Nat)) : St → St
  | ⟨F, H⟩ => ⟨xDb als F, H⟩
theorem xV1 (p : Nat × Nat) (r : List (Nat × Nat)) (pl : List Pr) (s : St) : xCN (p :: r) pl s = alK (p :: r) (xB0 pl s) := rfl
theorem yDi (als : List (Nat × Nat)) (F : List AV) (H : xAA) : alK als ⟨F, H⟩ = ⟨xDb als F, H⟩ := rfl
theorem xXU (F : List AV) : xDb [] F = F := rfl
theorem xV2 (d q : Nat) (r : List (Nat × Nat)) (F : List AV) : xDb ((d, q) :: r) F = xDb r (F.set d (F.getD q .any)) := rfl
def xQz (e : Pr) : Option (St × List Pr) → Option (St × List Pr)
  | some (s, l) => some (s, e :: l)
  | none => none
theorem xFR (e : Pr) (s : St) (l : List Pr) : xQz e (some (s, l)) = some (s, e :: l) := rfl
def xQA (R : Rec) (rest : List AOper) (s : St) : Option Nat → Option (AV × List Blk) → Option (St × List Pr)
  | some t, some (v, B) => xQz (some (t, v, B)) (xBO R rest ⟨s.F.set t .any, s.H⟩)
  | _, _ => none
def xQB (R : Rec) (rest : List AOper) : Option St → Option (St × List Pr)
  | some s => xQz none (xBO R rest s)
  | none => none
theorem xEV : xBO R [] s = some (s, []) := rfl
theorem xEp (o : AOper) (rest : List AOper) : xBO R (o :: rest) s = if xBF o.op = true then xQA R rest s o.dst (xEB R s.F o.op) else xQB R rest (xBX R o s) := by
  simp only [xBO]
  split
  · cases o.dst with
    | none => rfl
    | some t => cases xEB R s.F o.op with
      | none => rfl
      | some r =>
        obtain ⟨v, B⟩ := r
        simp only [xQA]
        cases xBO R rest ⟨s.F.set t .any, s.H⟩ <;> rfl
  · cases xBX R o s with
    | none => rfl
    | some s1 =>
      simp only [xQB]
      cases xBO R rest s1 <;> rfl
theorem xV3 (rest : List AOper) (t : Nat) (v : AV) (B : List Blk) : xQA R rest s (some t) (some (v, B)) = xQz (some (t, v, B)) (xBO R rest ⟨s.F.set t .any, s.H⟩) := rfl
theorem xEW (rest : List AOper) (s : St) : xQB R rest (some s) = xQz none (xBO R rest s) := rfl
def xV4 : Option (AV × xAA) → Option (AV × List Blk)
  | some (v, B) => if xTg v = true ∧ xFE B = true then some (v, B) else none
  | none => none
theorem yAI (op : AOp) : xEB R F op = if op.args.all (fun x => xJw (opv F x)) = true then xV4 (xAm R F [] op) else none := by
  unfold xEB xV4
  split
  · cases xAm R F [] op <;> rfl
  · rfl
theorem xXV (v : AV) (B : xAA) : xV4 (some (v, B)) = if xTg v = true ∧ xFE B = true then some (v, B) else none := rfl
theorem xUI (f : Nat) (as : List Arg) : xBF (.ocall f as) = true := rfl
theorem xXW (x : Arg) : xBF (.box x) = true := rfl
theorem xV5 (z : List AV) (b : Nat) (x y : Arg) : xBF (.mkslice false z b x y) = true := rfl
theorem xV6 (z : List AV) (b : Nat) (x y : Arg) : xBF (.mkslice true z b x y) = false := rfl
theorem xV7 (z : List AV) (es n : Nat) (ps : List (Nat × Arg)) : xBF (.bslice false z es n ps) = true := rfl
theorem xV8 (z : List AV) (es n : Nat) (ps : List (Nat × Arg)) : xBF (.bslice true z es n ps) = false := rfl
theorem xV9 (es b : Nat) (x y : Arg) : xBF (.append false es b x y) = true := rfl
theorem xWa (es b : Nat) (x y : Arg) : xBF (.append true es b x y) = false := rfl
theorem xWb (z : List AV) (b : Nat) (x y : Arg) : xBF (.appendz z b x y) = true := rfl
theorem xJV (x : Arg) : xBF (.mov x) = false := rfl
theorem xWc (x y z : Arg) : xBF (.pick x y z) = false := rfl
theorem xUJ (z : List AV) (ps : List (Nat × Nat × Arg)) : xBF (.build z ps) = false := rfl
theorem xEX (g : Bool) (n : Nat) (x : Arg) : xBF (.load g n x) = false := rfl
theorem xSR (x : Arg) : xBF (.nilchk x) = false := rfl
theorem xXX (op : BinOp) (x y : Arg) : xBF (.bin op x y) = false := rfl
theorem xXY (g : Bool) (x y : Arg) : xBF (.beq g x y) = false := rfl
theorem xUK (g : Bool) (x : Arg) : xBF (.isnil g x) = false := rfl
theorem xY9 (op : UnOp) (x : Arg) : xBF (.un op x) = false := rfl
theorem xWd (k : IntKind) (x : Arg) : xBF (.conv k x) = false := rfl
theorem xSS (f : Nat) (as : List Arg) : xBF (.mkfunc f as) = false := rfl
theorem xUL (es : Nat) (x : Arg) (a b c : Option Arg) : xBF (.slice es x a b c) = false := rfl
theorem xHC (o : Nat) (x : Arg) : xBF (.faddr o x) = false := rfl
theorem xUM (g : Bool) (o n : Nat) (x : Arg) : xBF (.field g o n x) = false := rfl
theorem xHD (es : Nat) (x i : Arg) : xBF (.iaddr es x i) = false := rfl
theorem xXZ (i : Nat) (x : Arg) : xBF (.ext i x) = false := rfl
theorem xX0 (x : Arg) : xBF (.len x) = false := rfl
theorem xX1 (x : Arg) : xBF (.cap x) = false := rfl
theorem xX2 (g : Bool) (n : Nat) (x y : Arg) : xBF (.aeq g n x y) = false := rfl
theorem xWe (f : Nat) (as : List Arg) : xBF (.call f as) = false := rfl
theorem xUN (f : Arg) (as : List Arg) : xBF (.fcall f as) = false := rfl
theorem xWf (x y : Arg) : xBF (.maxi x y) = false := rfl
theorem xWg (x y : Arg) : xBF (.mini x y) = false := rfl
theorem xWh : xFE [] = true := rfl
theorem xUO (z : Bool) (cs : List AV) (B : List Blk) : xFE (.cells false z cs :: B) = (cs.all xCA && xFE B) := rfl
theorem xKk {α : Type} {f : α → AV} (h : ∀ a, xCA (f a) = true) (l : List α) : (l.map f).all xCA = true := by
  simp [List.all_eq_true, h]
end

section
variable {R : Rec} {F : List AV} {H : xAA}
def yAJ (g : Bool) (es len : Nat) : AV → AV → Option AV
  | .agg cs, .int _ i => if 0 ≤ i ∧ i.toNat < len ∧ i.toNat * es + es ≤ cs.length then mkv g ((cs.drop (i.toNat * es)).take es) else none
  | _, _ => none
theorem xCk {g : Bool} {es len : Nat} {cs : List AV} {k : IntKind} {i : Int} (h0 : 0 ≤ i) (h : i < len) (h2 : i.toNat * es + es ≤ cs.length) : yAJ g es len (.agg cs) (.int k i) = mkv g ((cs.drop (i.toNat * es)).take es) := if_pos ⟨h0, by omega, h2⟩
theorem xDy (g : Bool) (es len : Nat) (x i : Arg) : xAm R F H (.idx g es len x i) = xDU H (yAJ g es len (opv F x) (opv F i)) := by
  simp only [xAm]
  cases opv F x with
  | agg cs => cases opv F i with
    | int k n =>
      by_cases h0 : 0 ≤ n
      · have e : xCx (.int k n) = some n.toNat := by simp [xCx, h0]
        simp only [e, yAJ, h0, true_and]
        by_cases c : n.toNat < len ∧ n.toNat * es + es ≤ cs.length
        · rw [if_pos c, if_pos c]
          cases mkv g ((cs.drop (n.toNat * es)).take es) <;> rfl
        · rw [if_neg c, if_neg c]; rfl
      · have e : xCx (.int k n) = none := by simp [xCx, h0]
        simp only [e, yAJ, h0, false_and, if_false, xDU]
    | _ => rfl
  | _ => rfl
def xIA (es len : Nat) : AV → AV → Option AV
  | .ptr id off, .int _ i => if 0 ≤ i ∧ i.toNat < len then some (.ptr id (off + i.toNat * es)) else none
  | .vptr cs off, .int _ i => if 0 ≤ i ∧ i.toNat < len then some (.vptr cs (off + i.toNat * es)) else none
  | _, _ => none
theorem xJW {es len id off : Nat} {k : IntKind} {i : Int} (h0 : 0 ≤ i) (h : i < len) : xIA es len (.ptr id off) (.int k i) = some (.ptr id (off + i.toNat * es)) := if_pos ⟨h0, by omega⟩
theorem xWi {es len off : Nat} {cs : List AV} {k : IntKind} {i : Int} (h0 : 0 ≤ i) (h : i < len) : xIA es len (.vptr cs off) (.int k i) = some (.vptr cs (off + i.toNat * es)) := if_pos ⟨h0, by omega⟩
theorem xN8 (es len : Nat) (x i : Arg) : xAm R F H (.arrat es len x i) = xDU H (xIA es len (opv F x) (opv F i)) := by
  simp only [xAm]
  cases opv F x with
  | ptr id off => cases opv F i with
    | int k n =>
      by_cases h0 : 0 ≤ n
      · have e : xCx (.int k n) = some n.toNat := by simp [xCx, h0]
        simp only [e, xIA, h0, true_and]
        by_cases c : n.toNat < len
        · rw [if_pos c, if_pos c]; rfl
        · rw [if_neg c, if_neg c]; rfl
      · have e : xCx (.int k n) = none := by simp [xCx, h0]
        simp only [e, xIA, h0, false_and, if_false, xDU]
    | _ => rfl
  | vptr cs off => cases opv F i with
    | int k n =>
      by_cases h0 : 0 ≤ n
      · have e : xCx (.int k n) = some n.toNat := by simp [xCx, h0]
        simp only [e, xIA, h0, true_and]
        by_cases c : n.toNat < len
        · rw [if_pos c, if_pos c]; rfl
        · rw [if_neg c, if_neg c]; rfl
      · have e : xCx (.int k n) = none := by simp [xCx, h0]
        simp only [e, xIA, h0, false_and, if_false, xDU]
    | _ => rfl
  | _ => rfl
def xST (es len : Nat) : Option (List AV) → AV → Option AV
  | some cs, .int _ i => if 0 ≤ i ∧ i.toNat < len then some (.vptr cs (i.toNat * es)) else none
  | _, _ => none
theorem xX3 {es len : Nat} {cs : List AV} {k : IntKind} {i : Int} (h0 : 0 ≤ i) (h : i < len) : xST es len (some cs) (.int k i) = some (.vptr cs (i.toNat * es)) := if_pos ⟨h0, by omega⟩
theorem yBS (b es len : Nat) (i : Arg) : xAm R F H (.garr b es len i) = xDU H (xST es len (xPd b) (opv F i)) := by
  simp only [xAm]
  cases xPd b with
  | none => rfl
  | some cs => cases opv F i with
    | int k n =>
      by_cases h0 : 0 ≤ n
      · have e : xCx (.int k n) = some n.toNat := by simp [xCx, h0]
        simp only [e, xST, h0, true_and]
        by_cases c : n.toNat < len
        · rw [if_pos c, if_pos c]; rfl
        · rw [if_neg c, if_neg c]; rfl
      · have e : xCx (.int k n) = none := by simp [xCx, h0]
        simp only [e, xST, h0, false_and, if_false, xDU]
    | _ => rfl
def xZa : AV → Option AV
  | .str s => some (.int .i64 s.size)
  | _ => none
theorem xZb (s : ByteArray) : xZa (.str s) = some (.int .i64 s.size) := rfl
theorem yBT (x : Arg) : xAm R F H (.slen x) = xDU H (xZa (opv F x)) := by
  simp only [xAm]
  cases opv F x <;> rfl
theorem yDj (g : Bool) (es len : Nat) (x i : Arg) : xBW R F H (.idx g es len x i) = xFb H (xAm R F H (.idx g es len x i)) := xDA _ rfl
theorem yAK (es len : Nat) (x i : Arg) : xBW R F H (.arrat es len x i) = xFb H (xAm R F H (.arrat es len x i)) := xDA _ rfl
theorem yBU (b es len : Nat) (i : Arg) : xBW R F H (.garr b es len i) = xFb H (xAm R F H (.garr b es len i)) := xDA _ rfl
theorem xQC (mx : Bool) (x : Arg) (xs : List Arg) : xAm R F H (.mm mx (x :: xs)) = xDU H (mmA mx (opv F x) (xs.map (opv F))) := by
  simp only [xAm, List.map_cons, xDU]
  cases mmA mx (opv F x) (xs.map (opv F)) <;> rfl
theorem xIB (mx : Bool) (k : IntKind) (a : Int) : mmA mx (.int k a) [] = some (.int k a) := rfl
theorem xIC (k k' : IntKind) (a b : Int) (r : List AV) : mmA false (.int k a) (.int k' b :: r) = mmA false (.int k (min a b)) r := by
  simp only [mmA, Bool.false_eq_true, if_false]
  congr 2; split <;> omega
theorem xKl (k k' : IntKind) (a b : Int) (r : List AV) : mmA true (.int k a) (.int k' b :: r) = mmA true (.int k (max a b)) r := by
  simp only [mmA, if_true]
  congr 2; split <;> omega
theorem yEr (mx : Bool) (xs : List Arg) : xBW R F H (.mm mx xs) = xFb H (xAm R F H (.mm mx xs)) := xDA _ rfl
theorem xZc (mx : Bool) (xs : List Arg) : xBF (.mm mx xs) = false := rfl
theorem yBV (x : Arg) : xBW R F H (.slen x) = xFb H (xAm R F H (.slen x)) := xDA _ rfl
end
end Go.Abs
