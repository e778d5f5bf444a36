/- The interpreter's equations in the form that simp walks by: one equation for each construct, told apart by what has been computed already. -/
import Derived.Test.YtbfnjdhafgnlnaaAbsLim
namespace Go.Abs
set_option linter.unusedVariables false
set_option linter.unusedSimpArgs false

theorem xJ7 : ∀ (scr : List Nat) (F : List AV) (i : Nat), (xF9 scr F)[i]? = if i ∈ scr then (F[i]?).map (fun _ => AV.any) else F[i]?
  | [], F, i => by simp [xF9]
  | j :: scr, F, i => by
    have := xJ7 scr (F.set j .any) i
    simp only [xF9, List.foldl_cons] at this ⊢
    rw [this]
    by_cases h : i = j
    · subst h
      simp only [List.getElem?_set_self', List.mem_cons, true_or, if_true]
      cases F[i]? <;> simp
    · have h' : ¬ j = i := fun e => h e.symm
      simp [List.getElem?_set, h, h']

theorem xNr (scr : List Nat) (F : List AV) : xF9 scr (xF9 scr F) = xF9 scr F := by
  apply List.ext_getElem?
  intro i
  rw [xJ7, xJ7]
  split
  · cases F[i]? <;> rfl
  · rfl

section
variable {prog : Nat → Option AFunc}

theorem xPZ (prog : Nat → Option AFunc) (n : Nat) : Tends (fix prog n) (fun _ => lim prog) :=
  ⟨fun f a v h => .all fun _ => xJy ((xI2 prog n).pcall f a v h), fun f a H v h => .all fun _ => xJy ((xI2 prog n).icall f a H v h), fun scr b s v h => .all fun _ => xJy ((xI2 prog n).loop scr b s v h)⟩

theorem Ev.const {p : Prop} (h : Ev fun _ => p) : p := let ⟨n, hn⟩ := h; hn n (Nat.le_refl n)

theorem xP0 {α : Type} {a b : Option α} (h1 : ∀ v, a = some v → b = some v) (h2 : ∀ v, b = some v → a = some v) : a = b := by
  cases a with
  | some v => exact (h1 v rfl).symm
  | none =>
    cases b with
    | none => rfl
    | some v => exact h2 v rfl

theorem xCB {f : Nat} {fn : AFunc} (hf : prog f = some fn) (args : List AV) : (lim prog).pcall f args = xFU (lim prog) fn args := by
  refine xP0 (fun v h => ?_) (fun v h => xQd hf h)
  obtain ⟨n, hn⟩ := xIa (p := fun m => (fix prog m).pcall f args) h
  have h1 : (xJi prog (fix prog n)).pcall f args = some v := hn (n + 1) (by omega)
  have h2 := (xHT (xPZ prog n) prog).pcall f args v h1 |>.const
  simp only [xJi, hf] at h2
  exact h2

theorem xKn (f : AV) (args : List AV) (H : Heap) : (lim prog).icall f args H = xJh prog (lim prog) f args H := by
  refine xP0 (fun v h => ?_) (fun v h => xQe h)
  obtain ⟨n, hn⟩ := xIa (p := fun m => (fix prog m).icall f args H) h
  have h1 : (xJi prog (fix prog n)).icall f args H = some v := hn (n + 1) (by omega)
  exact (xHT (xPZ prog n) prog).icall f args H v h1 |>.const

theorem xJx (scr : List Nat) (b : ACode) (s : St) : (lim prog).loop scr b s = xLv (lim prog) scr b s := by
  refine xP0 (fun v h => ?_) (fun v h => xRi h)
  obtain ⟨n, hn⟩ := xIa (p := fun m => (fix prog m).loop scr b s) h
  have h1 : (xJi prog (fix prog n)).loop scr b s = some v := hn (n + 1) (by omega)
  exact (xHT (xPZ prog n) prog).loop scr b s v h1 |>.const

theorem xCC {f : Nat} {fn : AFunc} (hf : prog f = some fn) (caps args : List AV) (H : Heap) : (lim prog).icall (.func f caps) args H = xF8 (lim prog) fn (args ++ caps) H := by
  rw [xKn]
  simp only [xJh, hf]

theorem xKo (l : Nat) (args : List AV) (H : Heap) : (lim prog).icall (.yield l) args H = xJ0 (lim prog) l args H := by
  rw [xKn]
  rfl

theorem xJt (scr : List Nat) (b : ACode) (F : List AV) (H : Heap) : (lim prog).loop scr b ⟨F, H⟩ = (lim prog).loop scr b ⟨xF9 scr F, H⟩ := by
  rw [xJx, xJx]
  unfold xLv
  simp only [xNr]

def xHy (R : Rec) (scr : List Nat) (b : ACode) : Option (AExit × St) → Option (AExit × St)
  | some (.normal, s) => R.loop scr b ⟨xF9 scr s.F, s.H⟩
  | some (e, s) => some (e, ⟨xF9 scr s.F, s.H⟩)
  | none => none

theorem xFz (scr : List Nat) (b : ACode) (F : List AV) (H : Heap) (h : xF9 scr F = F) : (lim prog).loop scr b ⟨F, H⟩ = xHy (lim prog) scr b (run (lim prog) b ⟨F, H⟩) := by
  rw [xJx]
  unfold xLv xHy
  simp only [h]
  split
  · rename_i s' hs
    rw [hs]
    exact xJt scr b s'.F s'.H
  · rename_i e s' hne hs
    rw [hs]
    cases e with
    | normal => exact (hne rfl).elim
    | exit i => rfl
    | ret => rfl
  · rename_i hs
    rw [hs]

theorem xCM (scr : List Nat) (b : ACode) (F : List AV) (H : Heap) : run (lim prog) (.loop scr b) ⟨F, H⟩ = (lim prog).loop scr b ⟨xF9 scr F, H⟩ := xJt scr b F H
end

section
variable {R : Rec} {F : List AV} {H : Heap} {s : St}

def xRf (R : Rec) (b : ACode) : Option (AExit × St) → Option (AExit × St)
  | some (.normal, s) => run R b s
  | r => r
theorem xDW (a b : ACode) : run R (.seq a b) s = xRf R b (run R a s) := by
  simp only [run, xRf]
  split <;> simp_all
theorem xAu (b : ACode) (s : St) : xRf R b (some (.normal, s)) = run R b s := rfl
theorem xBG (b : ACode) (i : Nat) (s : St) : xRf R b (some (.exit i, s)) = some (.exit i, s) := rfl
theorem xCN (b : ACode) (s : St) : xRf R b (some (.ret, s)) = some (.ret, s) := rfl
theorem xBH (b : ACode) : xRf R b none = none := rfl
theorem xCO (b : ACode) {c : Prop} [Decidable c] (x y : Option (AExit × St)) : xRf R b (if c then x else y) = if c then xRf R b x else xRf R b y := by split <;> rfl

def xSQ (R : Rec) (a b : ACode) (s : St) : AV → Option (AExit × St)
  | .bool t => if t = true then run R a s else run R b s
  | _ => none
theorem xCP (c : Arg) (a b : ACode) (F : List AV) (H : Heap) : run R (.cond c a b) ⟨F, H⟩ = xSQ R a b ⟨F, H⟩ (opv F c) := by
  simp only [run, xSQ]
  split <;> simp_all
theorem xAR (a b : ACode) (t : Bool) : xSQ R a b s (.bool t) = if t = true then run R a s else run R b s := rfl

def xJL (id : Nat) : Option (AExit × St) → Option (AExit × St)
  | some (.exit i, s) => if i = id then some (.normal, s) else some (.exit i, s)
  | r => r
theorem xBI (id : Nat) (b : ACode) : run R (.block id b) s = xJL id (run R b s) := by
  simp only [run, xJL]
  split <;> simp_all
theorem xAv (id i : Nat) (s : St) : xJL id (some (.exit i, s)) = if i = id then some (.normal, s) else some (.exit i, s) := rfl
theorem xAi (id : Nat) (s : St) : xJL id (some (.normal, s)) = some (.normal, s) := rfl
theorem xAS (id : Nat) (s : St) : xJL id (some (.ret, s)) = some (.ret, s) := rfl
theorem xAw (id : Nat) : xJL id none = none := rfl
theorem xAT (id : Nat) {c : Prop} [Decidable c] (x y : Option (AExit × St)) : xJL id (if c then x else y) = if c then xJL id x else xJL id y := by split <;> rfl

theorem xAn (scr : List Nat) (b : ACode) (F : List AV) (H : Heap) : xHy R scr b (some (.normal, ⟨F, H⟩)) = R.loop scr b ⟨xF9 scr F, H⟩ := rfl
theorem xAU (scr : List Nat) (b : ACode) (i : Nat) (F : List AV) (H : Heap) : xHy R scr b (some (.exit i, ⟨F, H⟩)) = some (.exit i, ⟨xF9 scr F, H⟩) := rfl
theorem xBJ (scr : List Nat) (b : ACode) (F : List AV) (H : Heap) : xHy R scr b (some (.ret, ⟨F, H⟩)) = some (.ret, ⟨xF9 scr F, H⟩) := rfl
theorem xBK (scr : List Nat) (b : ACode) {c : Prop} [Decidable c] (x y : Option (AExit × St)) : xHy R scr b (if c then x else y) = if c then xHy R scr b x else xHy R scr b y := by split <;> rfl

def xQ2 : Option St → Option (AExit × St)
  | some s => some (.normal, s)
  | none => none
theorem xBL (s : St) : xQ2 (some s) = some (.normal, s) := rfl
theorem xBM : xQ2 none = none := rfl
theorem xCQ {c : Prop} [Decidable c] (x y : Option St) : xQ2 (if c then x else y) = if c then xQ2 x else xQ2 y := by split <;> rfl
theorem xAV (ops : List AOper) : run R (.region ops) s = xQ2 (xHn R ops s) := by
  simp only [run, xQ2]
  cases xHn R ops s <;> rfl
theorem xCR : run R .skip s = some (.normal, s) := rfl
theorem xBN : run R .label s = some (.normal, s) := rfl
theorem xCS (i : Nat) : run R (.exit i) s = some (.exit i, s) := rfl
theorem xDX : run R .ret s = some (.ret, s) := rfl
theorem xBO (b : ACode) : run R (.scope b) s = run R b s := rfl
theorem xBP : run R .stuck s = none := rfl

def xSR (R : Rec) (rest : List AOper) : Option St → Option St
  | some s => xHn R rest s
  | none => none
theorem xAW : xHn R [] s = some s := rfl
theorem xAx (o : AOper) (rest : List AOper) : xHn R (o :: rest) s = xSR R rest (xHG R o s) := by
  simp only [xHn, xSR]
  cases xHG R o s <;> rfl
theorem xBQ (rest : List AOper) (s : St) : xSR R rest (some s) = xHn R rest s := rfl
theorem xBR (rest : List AOper) : xSR R rest none = none := rfl
theorem xCT (rest : List AOper) {c : Prop} [Decidable c] (x y : Option St) : xSR R rest (if c then x else y) = if c then xSR R rest x else xSR R rest y := by split <;> rfl

def xP1 (F : List AV) (d : Option Nat) : Option (AV × Heap) → Option St
  | some (v, H) => some ⟨xIY F d v, H⟩
  | none => none
theorem xDY (d : Nat) (v : AV) : xP1 F (some d) (some (v, H)) = some ⟨F.set d v, H⟩ := rfl
theorem xDZ (v : AV) : xP1 F none (some (v, H)) = some ⟨F, H⟩ := rfl
theorem xBS (d : Option Nat) : xP1 F d none = none := rfl
theorem xCU (d : Option Nat) {c : Prop} [Decidable c] (x y : Option (AV × Heap)) : xP1 F d (if c then x else y) = if c then xP1 F d x else xP1 F d y := by split <;> rfl
theorem xBT (d : Option Nat) (op : AOp) : xHG R ⟨d, op, none⟩ ⟨F, H⟩ = xP1 F d (xBw R F H op) := by
  simp only [xHG, xIr, xP1]
  cases xBw R F H op <;> rfl
def xOq (R : Rec) (d : Option Nat) (op : AOp) (w : Bool) (F : List AV) (H : Heap) : AV → Option St
  | .bool b => if b = w then xP1 F d (xBw R F H op) else some ⟨xIY F d (.tup []), H⟩
  | .any => none
  | _ => some ⟨xIY F d (.tup []), H⟩
theorem xAX (d : Option Nat) (op : AOp) (t : Nat) (w : Bool) : xHG R ⟨d, op, some (t, w)⟩ ⟨F, H⟩ = xOq R d op w F H (F.getD t .any) := by
  simp only [xHG, xIr, xOq]
  cases F.getD t .any with
  | bool b =>
    cases b <;> cases w <;> simp [xP1] <;> cases xBw R F H op <;> rfl
  | _ => rfl
theorem xAy (d : Option Nat) (op : AOp) (w b : Bool) : xOq R d op w F H (.bool b) = if b = w then xP1 F d (xBw R F H op) else some ⟨xIY F d (.tup []), H⟩ := rfl
theorem xAY (d : Option Nat) (op : AOp) (w : Bool) (vs : List AV) : xOq R d op w F H (.tup vs) = some ⟨xIY F d (.tup []), H⟩ := rfl
theorem xD0 (d : Nat) (v : AV) : xIY F (some d) v = F.set d v := rfl
theorem xD1 (v : AV) : xIY F none v = F := rfl

def xNs (R : Rec) (m : Nat) (ops : List AOper) : Option St → Option (AExit × St)
  | some s => xQ2 (xHn R (ops.drop m) (xFD (ops.take m) s))
  | none => none
theorem xCV (m : Nat) (ops : List AOper) : run R (.draw m ops) s = xNs R m ops (xHK R (ops.take m) s) := by
  simp only [run, xNs]
  cases xHK R (ops.take m) s with
  | none => rfl
  | some s1 =>
    simp only [xQ2]
    cases xHn R (ops.drop m) (xFD (ops.take m) s1) <;> rfl
theorem xAZ (m : Nat) (ops : List AOper) (s : St) : xNs R m ops (some s) = xQ2 (xHn R (ops.drop m) (xFD (ops.take m) s)) := rfl
theorem xA0 (m : Nat) (ops : List AOper) : xNs R m ops none = none := rfl
theorem xBU (m : Nat) (ops : List AOper) {c : Prop} [Decidable c] (x y : Option St) : xNs R m ops (if c then x else y) = if c then xNs R m ops x else xNs R m ops y := by split <;> rfl

def xI1 (ls : List (Nat × Nat × Nat × Nat)) : Option St → Option (AExit × St)
  | some s => if ls.all (apart s.F) = true then some (.normal, s) else none
  | none => none
def xKW (R : Rec) (ls : List (Nat × Nat × Nat × Nat)) (m : Nat) (ops : List AOper) : Option St → Option (AExit × St)
  | some s => xI1 ls (xHn R (ops.drop m) (xFD (ops.take m) s))
  | none => none
theorem xBV (ls : List (Nat × Nat × Nat × Nat)) (m : Nat) (ops : List AOper) : run R (.drawl ls m ops) s = xKW R ls m ops (xHK R (ops.take m) s) := by
  simp only [run, xKW]
  cases xHK R (ops.take m) s with
  | none => rfl
  | some s1 =>
    simp only [xI1]
    cases xHn R (ops.drop m) (xFD (ops.take m) s1) <;> rfl
theorem xAz (ls : List (Nat × Nat × Nat × Nat)) (m : Nat) (ops : List AOper) (s : St) : xKW R ls m ops (some s) = xI1 ls (xHn R (ops.drop m) (xFD (ops.take m) s)) := rfl
theorem xAA (ls : List (Nat × Nat × Nat × Nat)) (m : Nat) (ops : List AOper) : xKW R ls m ops none = none := rfl
theorem xA1 (ls : List (Nat × Nat × Nat × Nat)) (m : Nat) (ops : List AOper) {c : Prop} [Decidable c] (x y : Option St) : xKW R ls m ops (if c then x else y) = if c then xKW R ls m ops x else xKW R ls m ops y := by split <;> rfl
theorem xAB (ls : List (Nat × Nat × Nat × Nat)) (s : St) : xI1 ls (some s) = if ls.all (apart s.F) = true then some (.normal, s) else none := rfl
theorem xAC (ls : List (Nat × Nat × Nat × Nat)) : xI1 ls none = none := rfl
theorem xA2 (ls : List (Nat × Nat × Nat × Nat)) {c : Prop} [Decidable c] (x y : Option St) : xI1 ls (if c then x else y) = if c then xI1 ls x else xI1 ls y := by split <;> rfl

def xNt (R : Rec) (rest : List AOper) : Option St → Option St
  | some s => xHK R rest s
  | none => none
theorem xAD : xHK R [] s = some s := rfl
theorem xAo (o : AOper) (rest : List AOper) : xHK R (o :: rest) s = xNt R rest (xHo R o s) := by
  simp only [xHK, xNt]
  cases xHo R o s <;> rfl
theorem xA3 (rest : List AOper) (s : St) : xNt R rest (some s) = xHK R rest s := rfl
theorem xA4 (rest : List AOper) : xNt R rest none = none := rfl
theorem xBW (rest : List AOper) {c : Prop} [Decidable c] (x y : Option St) : xNt R rest (if c then x else y) = if c then xNt R rest x else xNt R rest y := by split <;> rfl

def xKX (F : List AV) (d : Option Nat) (H : Heap) : Option (AV × Heap) → Option St
  | some (v, _) => some ⟨xIY F d v, H⟩
  | none => none
theorem xCW (d : Nat) (v : AV) (H' : Heap) : xKX F (some d) H (some (v, H')) = some ⟨F.set d v, H⟩ := rfl
theorem xCX (v : AV) (H' : Heap) : xKX F none H (some (v, H')) = some ⟨F, H⟩ := rfl
theorem xA5 (d : Option Nat) : xKX F d H none = none := rfl
theorem xBX (d : Option Nat) {c : Prop} [Decidable c] (x y : Option (AV × Heap)) : xKX F d H (if c then x else y) = if c then xKX F d H x else xKX F d H y := by split <;> rfl

def xHm (R : Rec) (F : List AV) (H : Heap) (op : AOp) : Option (AV × Heap) := (xGa R F H op).map fun v => (v, H)
theorem xA6 (d : Option Nat) (op : AOp) : xHo R ⟨d, op, none⟩ ⟨F, H⟩ = xKX F d H (xHm R F H op) := by
  simp only [xHo, xIr, xKX, xHm]
  cases xGa R F H op <;> rfl
def xL3 (R : Rec) (d : Option Nat) (op : AOp) (w : Bool) (F : List AV) (H : Heap) : AV → Option St
  | .bool b => if b = w then xKX F d H (xHm R F H op) else some ⟨xIY F d (.tup []), H⟩
  | .any => none
  | _ => some ⟨xIY F d (.tup []), H⟩
theorem xAE (d : Option Nat) (op : AOp) (t : Nat) (w : Bool) : xHo R ⟨d, op, some (t, w)⟩ ⟨F, H⟩ = xL3 R d op w F H (F.getD t .any) := by
  simp only [xHo, xIr, xL3]
  cases F.getD t .any with
  | bool b =>
    cases b <;> cases w <;> simp [xKX, xHm] <;> cases xGa R F H op <;> rfl
  | _ => rfl
theorem xAp (d : Option Nat) (op : AOp) (w b : Bool) : xL3 R d op w F H (.bool b) = if b = w then xKX F d H (xHm R F H op) else some ⟨xIY F d (.tup []), H⟩ := rfl
theorem xAF (d : Option Nat) (op : AOp) (w : Bool) (vs : List AV) : xL3 R d op w F H (.tup vs) = some ⟨xIY F d (.tup []), H⟩ := rfl

def xIO (H : Heap) : Option AV → Option (AV × Heap)
  | some v => some (v, H)
  | none => none
theorem xBY (v : AV) : xIO H (some v) = some (v, H) := rfl
theorem xBZ : xIO H none = none := rfl
theorem xCY {c : Prop} [Decidable c] (x y : Option AV) : xIO H (if c then x else y) = if c then xIO H x else xIO H y := by split <;> rfl

theorem xEY (x : Arg) : xBw R F H (.mov x) = some (opv F x, H) := rfl
def xSS : AV → AV → AV → Option AV
  | .bool t, a, b => some (if t = true then a else b)
  | _, _, _ => none
theorem xA7 (t : Bool) (a b : AV) : xSS (.bool t) a b = some (if t = true then a else b) := rfl
theorem xD2 (c a b : Arg) : xBw R F H (.pick c a b) = xIO H (xSS (opv F c) (opv F a) (opv F b)) := by
  simp only [xBw, xSS, xIO]
  split <;> simp_all
theorem xEZ (x : Arg) : xBw R F H (.box x) = if (opv F x).cells.all AV.isCell = true then some (.ptr H.length 0, H ++ [.cells false false (opv F x).cells]) else none := rfl
theorem xCZ (z : List AV) (parts : List (Nat × Nat × Arg)) : xBw R F H (.build z parts) =
    if parts.all (fun p => (opv F p.2.2).cells.length == p.2.1) = true then xIO H ((xFE z (parts.map fun p => (p.1, (opv F p.2.2).cells))).map AV.agg) else none := by
  simp only [xBw, xIO]
  split
  · cases xFE z (parts.map fun p => (p.1, (opv F p.2.2).cells)) <;> rfl
  · rfl
def xT9 (fz z : Bool) (n es : Nat) (H : Heap) : Option (List AV) → Option (AV × Heap)
  | some cs => xKx fz z n es cs H
  | none => none
theorem xB0 (fz z : Bool) (n es : Nat) (cs : List AV) : xT9 fz z n es H (some cs) = xKx fz z n es cs H := rfl
theorem xC0 (z : Bool) (n es : Nat) (cs : List AV) : xKx false z n es cs H = some (.own z H.length 0 n es, H ++ [.cells false z cs]) := rfl
def slK (z : Bool) (n : Nat) : Option (List AV) → Option AV
  | some cs => some (.sl z n cs)
  | none => none
theorem xC1 (z : Bool) (n : Nat) (cs : List AV) : slK z n (some cs) = some (.sl z n cs) := rfl
theorem xB1 (z : Bool) (n es : Nat) (cs : List AV) : xKx true z n es cs H = if (cs.flatMap (bor xGb H)).isEmpty = true then xIO H (slK z n (cs.mapM (frz xGb H))) else none := by
  simp only [xKx, xIO, slK]
  split
  · rename_i h
    cases cs.mapM (frz xGb H) <;> simp_all
  · simp_all
theorem xB2 (fz : Bool) (z : List AV) (es n : Nat) (parts : List (Nat × Arg)) : xBw R F H (.bslice fz z es n parts) =
    if parts.all (fun p => (opv F p.2).cells.length == es) = true then xT9 fz false n es H (xFE (xIV z n) (parts.map fun p => (p.1 * es, (opv F p.2).cells))) else none := by
  simp only [xBw, xT9]
  split
  · cases xFE (xIV z n) (parts.map fun p => (p.1 * es, (opv F p.2).cells)) <;> rfl
  · rfl
def xRg (g : Bool) : Option (List AV) → Option AV
  | some cs => mkv g cs
  | none => none
theorem xD3 (v : AV) : xRg false (some [v]) = some v := rfl
theorem xD4 (cs : List AV) : xRg true (some cs) = some (.agg cs) := rfl
theorem xD5 (g : Bool) (n : Nat) (p : Arg) : xBw R F H (.load g n p) = xIO H (xRg g (rd H (opv F p) n)) := by
  simp only [xBw, xIO, xRg]
  cases rd H (opv F p) n with
  | none => rfl
  | some cs => simp only; cases mkv g cs <;> rfl
def rdK (off n : Nat) : Option Blk → Option (List AV)
  | some (.cells _ _ cs) => if off + n ≤ cs.length then some ((cs.drop off).take n) else none
  | _ => none
theorem xE0 (id off n : Nat) : rd H (.ptr id off) n = rdK off n H[id]? := by
  simp only [rd, rdK]
  rfl
theorem xB3 {off n : Nat} {fz z : Bool} {cs : List AV} (h : off + n ≤ cs.length) : rdK off n (some (.cells fz z cs)) = some ((cs.drop off).take n) := if_pos h
theorem xD6 {off n : Nat} {cs : List AV} (h : off + n ≤ cs.length) : rd H (.vptr cs off) n = some ((cs.drop off).take n) := if_pos h

def wrK (H : Heap) (id off : Nat) (vs : List AV) : Option Blk → Option Heap
  | some (.cells false z cs) => if off + vs.length ≤ cs.length ∧ vs.all AV.isCell = true then some (H.set id (.cells false z (xES cs off vs))) else none
  | _ => none
theorem xE1 (id off : Nat) (vs : List AV) : wr H (.ptr id off) vs = wrK H id off vs H[id]? := by
  simp only [wr, wrK]
  rfl
theorem xB4 {id off : Nat} {vs : List AV} {z : Bool} {cs : List AV} (h : off + vs.length ≤ cs.length) (h2 : vs.all AV.isCell = true) : wrK H id off vs (some (.cells false z cs)) = some (H.set id (.cells false z (xES cs off vs))) := if_pos ⟨h, h2⟩
def xP2 : Option Heap → Option (AV × Heap)
  | some H => some (.tup [], H)
  | none => none
theorem xAG (H : Heap) : xP2 (some H) = some (.tup [], H) := rfl
theorem xC2 (n : Nat) (p v : Arg) : xBw R F H (.store n p v) = if (opv F v).cells.length = n then xP2 (wr H (opv F p) (opv F v).cells) else none := by
  simp only [xBw, xP2]
  split
  · cases wr H (opv F p) (opv F v).cells <;> rfl
  · rfl
def xTA : AV → Option AV
  | .ptr id off => some (.ptr id off)
  | .vptr cs off => some (.vptr cs off)
  | .func f caps => some (.func f caps)
  | .yield l => some (.yield l)
  | _ => none
theorem xC3 (id off : Nat) : xTA (.ptr id off) = some (.ptr id off) := rfl
theorem xB5 (cs : List AV) (off : Nat) : xTA (.vptr cs off) = some (.vptr cs off) := rfl
theorem xB6 (f : Nat) (cs : List AV) : xTA (.func f cs) = some (.func f cs) := rfl
theorem xA8 (l : Nat) : xTA (.yield l) = some (.yield l) := rfl
theorem xB7 (x : Arg) : xBw R F H (.nilchk x) = xIO H (xTA (opv F x)) := by
  simp only [xBw]
  cases opv F x <;> rfl
theorem xE2 (op : BinOp) (x y : Arg) : xBw R F H (.bin op x y) = xIO H (xIZ op (opv F x) (opv F y)) := by
  simp only [xBw, xIO]
  cases xIZ op (opv F x) (opv F y) <;> rfl

section
variable (k : IntKind) (a b : Int)
theorem xD7 : xIZ .add (.int k a) (.int k b) = some (.int k (k.wrap (a + b))) := by simp [xIZ]
theorem xD8 : xIZ .sub (.int k a) (.int k b) = some (.int k (k.wrap (a - b))) := by simp [xIZ]
theorem xD9 : xIZ .mul (.int k a) (.int k b) = some (.int k (k.wrap (a * b))) := by simp [xIZ]
theorem xEa (h : b ≠ 0) : xIZ .quo (.int k a) (.int k b) = some (.int k (k.wrap (a.tdiv b))) := by simp [xIZ, h]
theorem xEb (h : b ≠ 0) : xIZ .rem (.int k a) (.int k b) = some (.int k (a.tmod b)) := by simp [xIZ, h]
theorem xEc : xIZ .and (.int k a) (.int k b) = some (.int k (xJE .and k a b)) := by simp [xIZ]
theorem xE3 : xIZ .or (.int k a) (.int k b) = some (.int k (xJE .or k a b)) := by simp [xIZ]
theorem xEd : xIZ .xor (.int k a) (.int k b) = some (.int k (xJE .xor k a b)) := by simp [xIZ]
theorem xA9 : xIZ .andNot (.int k a) (.int k b) = some (.int k (xJE .andNot k a b)) := by simp [xIZ]
theorem xEe (k' : IntKind) (h : 0 ≤ b) : xIZ .shl (.int k a) (.int k' b) = some (.int k (k.wrap (a * 2 ^ (min b.toNat k.bits)))) := by simp only [xIZ]; rw [if_neg (by omega)]
theorem xEf (k' : IntKind) (h : 0 ≤ b) : xIZ .shr (.int k a) (.int k' b) = some (.int k (a.fdiv (2 ^ (min b.toNat k.bits)))) := by simp only [xIZ]; rw [if_neg (by omega)]
theorem xEg : xIZ .eql (.int k a) (.int k b) = some (.bool (decide (a = b))) := by simp [xIZ]; rfl
theorem xEh : xIZ .neq (.int k a) (.int k b) = some (.bool (!decide (a = b))) := by simp [xIZ]; rfl
theorem xEi : xIZ .lss (.int k a) (.int k b) = some (.bool (decide (a < b))) := by simp [xIZ]
theorem xEj : xIZ .leq (.int k a) (.int k b) = some (.bool (decide (a ≤ b))) := by simp [xIZ]
theorem xEk : xIZ .gtr (.int k a) (.int k b) = some (.bool (decide (b < a))) := by simp [xIZ]
theorem xEl : xIZ .geq (.int k a) (.int k b) = some (.bool (decide (b ≤ a))) := by simp [xIZ]
end

def xUa (neg : Bool) : AV → AV → Option AV
  | .bool a, .bool b => some (.bool (if neg = true then a != b else a == b))
  | _, _ => none
theorem xE4 (a b : Bool) : xUa false (.bool a) (.bool b) = some (.bool (decide (a = b))) := by cases a <;> cases b <;> rfl
theorem xE5 (a b : Bool) : xUa true (.bool a) (.bool b) = some (.bool (!decide (a = b))) := by cases a <;> cases b <;> rfl
theorem xE6 (neg : Bool) (x y : Arg) : xBw R F H (.beq neg x y) = xIO H (xUa neg (opv F x) (opv F y)) := by
  simp only [xBw]
  cases opv F x <;> cases opv F y <;> rfl
def xMN (neg : Bool) : AV → Option AV
  | .sl z _ _ => some (.bool (z != neg))
  | .own z _ _ _ _ => some (.bool (z != neg))
  | _ => none
theorem xBa (z : Bool) (n : Nat) (cs : List AV) : xMN false (.sl z n cs) = some (.bool z) := by cases z <;> rfl
theorem xBb (z : Bool) (n : Nat) (cs : List AV) : xMN true (.sl z n cs) = some (.bool (!z)) := by cases z <;> rfl
theorem xAH (z : Bool) (id off n es : Nat) : xMN false (.own z id off n es) = some (.bool z) := by cases z <;> rfl
theorem xAI (z : Bool) (id off n es : Nat) : xMN true (.own z id off n es) = some (.bool (!z)) := by cases z <;> rfl
theorem xC4 (neg : Bool) (x : Arg) : xBw R F H (.isnil neg x) = xIO H (xMN neg (opv F x)) := by
  simp only [xBw]
  cases opv F x <;> rfl
theorem xFQ (op : UnOp) (x : Arg) : xBw R F H (.un op x) = xIO H (unA op (opv F x)) := by
  simp only [xBw, xIO]
  cases unA op (opv F x) <;> rfl
theorem xE7 (b : Bool) : unA .not (.bool b) = some (.bool !b) := rfl
theorem xE8 (k : IntKind) (n : Int) : unA .neg (.int k n) = some (.int k (k.wrap (0 - n))) := rfl
theorem xE9 (k : IntKind) (n : Int) : unA .xor (.int k n) = some (.int k (xJE .xor k (if k.signed then -1 else k.max) n)) := rfl
def xTB (k : IntKind) : AV → Option AV
  | .int _ n => some (.int k (k.wrap n))
  | _ => none
theorem xB8 (k k' : IntKind) (n : Int) : xTB k (.int k' n) = some (.int k (k.wrap n)) := rfl
theorem xEm (k : IntKind) (x : Arg) : xBw R F H (.conv k x) = xIO H (xTB k (opv F x)) := by
  simp only [xBw]
  cases opv F x <;> rfl
theorem xB9 (f : Nat) (caps : List Arg) : xBw R F H (.mkfunc f caps) = some (.func f (caps.map (opv F)), H) := rfl
def xVf (fz : Bool) (z : List AV) (bytes : Nat) (H : Heap) : AV → AV → Option (AV × Heap)
  | .int _ l, .int _ c => if 0 ≤ l ∧ l ≤ c ∧ c * bytes ≤ xHW ∧ c ≤ xHW ∧ z.all AV.isCell = true then xKx fz false l.toNat z.length (xIV z l.toNat) H else none
  | _, _ => none
theorem xC5 (fz : Bool) (z : List AV) (bytes : Nat) (k k' : IntKind) {l c : Int} (h1 : 0 ≤ l) (h2 : l ≤ c) (h3 : c * bytes ≤ 140737488355328) (h4 : c ≤ 140737488355328) (h5 : z.all AV.isCell = true) : xVf fz z bytes H (.int k l) (.int k' c) = xKx fz false l.toNat z.length (xIV z l.toNat) H := if_pos ⟨h1, h2, h3, h4, h5⟩
theorem xBc (fz : Bool) (z : List AV) (bytes : Nat) (l c : Arg) : xBw R F H (.mkslice fz z bytes l c) = xVf fz z bytes H (opv F l) (opv F c) := by
  simp only [xBw]
  cases opv F l <;> cases opv F c <;> rfl

def xST (es : Nat) (H : Heap) (x : AV) : Option (Nat × Nat) → Option AV
  | none => none
  | some (l, h) => match x with
    | .sl z _ cs => some (.sl z (h - l) ((cs.drop (l * es)).take ((h - l) * es)))
    | .own z id off _ _ => some (.own z id (off + l * es) (h - l) es)
    | _ => none
def xOr (es : Nat) (H : Heap) (lo hi mx : Option AV) : AV → Option AV
  | .sl z n cs => if cs.length = n * es then xST es H (.sl z n cs) (xHR n lo hi mx) else none
  | .own z id off n es' => if es' = es then xST es H (.own z id off n es') (xHR n lo hi mx) else none
  | _ => none
theorem xC6 (es : Nat) (x : Arg) (lo hi mx : Option Arg) : xBw R F H (.slice es x lo hi mx) = xIO H (xOr es H (lo.map (opv F)) (hi.map (opv F)) (mx.map (opv F)) (opv F x)) := by
  simp only [xBw, xIO, xOr, xST]
  cases opv F x with
  | sl z n cs =>
    simp only
    split
    · cases xHR n (lo.map (opv F)) (hi.map (opv F)) (mx.map (opv F)) <;> rfl
    · rfl
  | own z id off n es' =>
    simp only
    split
    · cases xHR n (lo.map (opv F)) (hi.map (opv F)) (mx.map (opv F)) <;> rfl
    · rfl
  | _ => rfl
theorem xCa {es n : Nat} {z : Bool} {cs : List AV} (lo hi mx : Option AV) (h : cs.length = n * es) : xOr es H lo hi mx (.sl z n cs) = xST es H (.sl z n cs) (xHR n lo hi mx) := if_pos h
theorem xBd {es n id off : Nat} {z : Bool} (lo hi mx : Option AV) : xOr es H lo hi mx (.own z id off n es) = xST es H (.own z id off n es) (xHR n lo hi mx) := if_pos rfl
theorem xEn (es : Nat) (z : Bool) (n : Nat) (cs : List AV) (l h : Nat) : xST es H (.sl z n cs) (some (l, h)) = some (.sl z (h - l) ((cs.drop (l * es)).take ((h - l) * es))) := rfl
theorem xC7 (es : Nat) (z : Bool) (id off n es' : Nat) (l h : Nat) : xST es H (.own z id off n es') (some (l, h)) = some (.own z id (off + l * es) (h - l) es) := rfl
theorem xCb (n : Nat) : xHR n none none none = some (0, n) := by simp [xHR]
theorem xCc {n : Nat} {k : IntKind} {l : Int} (h0 : 0 ≤ l) (h : l ≤ n) : xHR n (some (.int k l)) none none = some (l.toNat, n) := by
  simp only [xHR, xJe, if_pos h0]
  rw [if_pos ⟨by omega, by omega⟩]
theorem xCd {n : Nat} {k : IntKind} {m : Int} (h0 : 0 ≤ m) (h : m ≤ n) : xHR n none (some (.int k m)) none = some (0, m.toNat) := by
  simp only [xHR, xJe, if_pos h0]
  rw [if_pos ⟨by omega, by omega⟩]
theorem xCe {n : Nat} {k k' : IntKind} {l m : Int} (h0 : 0 ≤ l) (h1 : l ≤ m) (h : m ≤ n) : xHR n (some (.int k l)) (some (.int k' m)) none = some (l.toNat, m.toNat) := by
  have h2 : 0 ≤ m := by omega
  simp only [xHR, xJe, if_pos h0, if_pos h2]
  rw [if_pos ⟨by omega, by omega⟩]
def xP3 (o : Nat) : AV → Option AV
  | .ptr id off => some (.ptr id (off + o))
  | .vptr cs off => some (.vptr cs (off + o))
  | _ => none
theorem xBe (o id off : Nat) : xP3 o (.ptr id off) = some (.ptr id (off + o)) := rfl
theorem xAJ (o : Nat) (cs : List AV) (off : Nat) : xP3 o (.vptr cs off) = some (.vptr cs (off + o)) := rfl
theorem xC8 (o : Nat) (x : Arg) : xBw R F H (.faddr o x) = xIO H (xP3 o (opv F x)) := by
  simp only [xBw]
  cases opv F x <;> rfl
def xP4 (g : Bool) (off n : Nat) : AV → Option AV
  | .agg cs => if off + n ≤ cs.length then mkv g ((cs.drop off).take n) else none
  | _ => none
theorem xBf {g : Bool} {off n : Nat} {cs : List AV} (h : off + n ≤ cs.length) : xP4 g off n (.agg cs) = mkv g ((cs.drop off).take n) := if_pos h
theorem xFR (v : AV) : mkv false [v] = some v := rfl
theorem xFS (cs : List AV) : mkv true cs = some (.agg cs) := rfl
theorem xC9 (g : Bool) (off n : Nat) (x : Arg) : xBw R F H (.field g off n x) = xIO H (xP4 g off n (opv F x)) := by
  simp only [xBw]
  cases opv F x with
  | agg cs =>
    simp only [xP4, xIO]
    split
    · cases mkv g ((cs.drop off).take n) <;> rfl
    · rfl
  | _ => rfl
def xLO (es : Nat) : AV → AV → Option AV
  | .sl _ n cs, .int _ i => if 0 ≤ i ∧ i.toNat < n then some (.vptr cs (i.toNat * es)) else none
  | .own _ id off n es', .int _ i => if 0 ≤ i ∧ i.toNat < n ∧ es' = es then some (.ptr id (off + i.toNat * es)) else none
  | _, _ => none
theorem xCf {es n : Nat} {z : Bool} {cs : List AV} {k : IntKind} {i : Int} (h0 : 0 ≤ i) (h : i < n) : xLO es (.sl z n cs) (.int k i) = some (.vptr cs (i.toNat * es)) := if_pos ⟨h0, by omega⟩
theorem xBg {es n id off : Nat} {z : Bool} {k : IntKind} {i : Int} (h0 : 0 ≤ i) (h : i < n) : xLO es (.own z id off n es) (.int k i) = some (.ptr id (off + i.toNat * es)) := if_pos ⟨h0, by omega, rfl⟩
theorem xDa (es : Nat) (x i : Arg) : xBw R F H (.iaddr es x i) = xIO H (xLO es (opv F x) (opv F i)) := by
  simp only [xBw]
  cases opv F x with
  | sl z n cs =>
    cases opv F i with
    | int k j =>
      simp only [xJe, xLO, xIO]
      by_cases h : 0 ≤ j
      · by_cases h2 : j.toNat < n <;> simp [h, h2]
      · simp [h]
    | _ => rfl
  | own z id off n es' =>
    cases opv F i with
    | int k j =>
      simp only [xJe, xLO, xIO]
      by_cases h : 0 ≤ j
      · by_cases h2 : j.toNat < n
        · by_cases h3 : es' = es <;> simp [h, h2, h3]
        · simp [h, h2]
      · simp [h]
    | _ => rfl
  | _ => cases opv F i <;> simp [xLO, xIO, xJe] <;> split <;> simp_all
def xUb (i : Nat) : AV → Option AV
  | .tup vs => vs[i]?
  | _ => none
theorem xDb (i : Nat) (vs : List AV) : xUb i (.tup vs) = vs[i]? := rfl
theorem xFa (i : Nat) (x : Arg) : xBw R F H (.ext i x) = xIO H (xUb i (opv F x)) := by
  simp only [xBw]
  cases opv F x with
  | tup vs => simp only [xUb, xIO]; cases vs[i]? <;> rfl
  | _ => rfl
def xUc : AV → Option AV
  | .sl _ n _ => some (.int .i64 n)
  | .own _ _ _ n _ => some (.int .i64 n)
  | _ => none
theorem xEo (z : Bool) (n : Nat) (cs : List AV) : xUc (.sl z n cs) = some (.int .i64 n) := rfl
theorem xDc (z : Bool) (id off n es : Nat) : xUc (.own z id off n es) = some (.int .i64 n) := rfl
theorem xFb (x : Arg) : xBw R F H (.len x) = xIO H (xUc (opv F x)) := by
  simp only [xBw]
  cases opv F x <;> rfl
theorem xFc (x : Arg) : xBw R F H (.cap x) = match opv F x with
  | .sl true _ _ => some (.int .i64 0, H)
  | _ => none := rfl
def xUd (neg : Bool) (n : Nat) : AV → AV → Option AV
  | .agg cs, .agg ds => if cs.length = n then (xIB cs ds).map fun b => .bool (b != neg) else none
  | _, _ => none
theorem xDd {neg : Bool} {n : Nat} {cs ds : List AV} (h : cs.length = n) : xUd neg n (.agg cs) (.agg ds) = (xIB cs ds).map fun b => .bool (b != neg) := if_pos h
theorem xFd (neg : Bool) (n : Nat) (x y : Arg) : xBw R F H (.aeq neg n x y) = xIO H (xUd neg n (opv F x) (opv F y)) := by
  simp only [xBw]
  cases opv F x with
  | agg cs => cases opv F y with
    | agg ds =>
      simp only [xUd, xIO]
      split
      · cases xIB cs ds <;> rfl
      · rfl
    | _ => rfl
  | _ => rfl

def xSb (fz : Bool) (es bytes : Nat) (H : Heap) (x : AV) : Option (Nat × List AV) → Option (AV × Heap)
  | none => none
  | some (m, ys) => match x with
    | .sl true _ _ => if m * bytes ≤ xHW ∧ m ≤ xHW then xKx fz (m == 0) m es ys H else none
    | .own z id off n es' => match H[id]? with
      | some (.cells false _ cs) => if off = 0 ∧ es' = es ∧ n * es ≤ cs.length ∧ (n + m) * bytes ≤ xHW ∧ n + m ≤ xHW then
          some (.own (z && m == 0) H.length 0 (n + m) es, H.set id .dead ++ [.cells false (z && m == 0) (cs.take (n * es) ++ ys)]) else none
      | _ => none
    | _ => none
theorem xBz (fz : Bool) (es bytes : Nat) (x y : Arg) : xBw R F H (.append fz es bytes x y) = xSb fz es bytes H (opv F x) (src H es (opv F y)) := by
  simp only [xBw, xSb]
  cases src H es (opv F y) <;> rfl
theorem xDe {fz : Bool} {es bytes n m : Nat} {cs ys : List AV} (h : m * bytes ≤ 140737488355328) (h2 : m ≤ 140737488355328) : xSb fz es bytes H (.sl true n cs) (some (m, ys)) = xKx fz (m == 0) m es ys H := if_pos ⟨h, h2⟩
def xSU (es bytes n m : Nat) (H : Heap) (z : Bool) (id : Nat) (ys : List AV) : Option Blk → Option (AV × Heap)
  | some (.cells false _ cs) => if n * es ≤ cs.length ∧ (n + m) * bytes ≤ xHW ∧ n + m ≤ xHW then
      some (.own (z && m == 0) H.length 0 (n + m) es, H.set id .dead ++ [.cells false (z && m == 0) (cs.take (n * es) ++ ys)]) else none
  | _ => none
theorem xDf (fz : Bool) (es bytes n m id : Nat) (z : Bool) (ys : List AV) : xSb fz es bytes H (.own z id 0 n es) (some (m, ys)) = xSU es bytes n m H z id ys H[id]? := by
  simp only [xSb, xSU]
  split
  · rename_i z' cs hb
    by_cases h : n * es ≤ cs.length ∧ (n + m) * bytes ≤ xHW ∧ n + m ≤ xHW
    · rw [if_pos h, if_pos ⟨trivial, trivial, h⟩]
    · rw [if_neg h, if_neg (fun g => h g.2.2)]
  · rename_i hne
    cases hb : H[id]? with
    | none => rfl
    | some b => cases b with
      | cells fz z cs => cases fz with
        | false => exact (hne _ _ hb).elim
        | true => rfl
      | _ => rfl
theorem xAK {es bytes n m id : Nat} {z z' : Bool} {ys cs : List AV} (h : n * es ≤ cs.length) (h2 : (n + m) * bytes ≤ 140737488355328) (h3 : n + m ≤ 140737488355328) : xSU es bytes n m H z id ys (some (.cells false z' cs)) =
    some (.own (z && m == 0) H.length 0 (n + m) es, H.set id .dead ++ [.cells false (z && m == 0) (cs.take (n * es) ++ ys)]) := if_pos ⟨h, h2, h3⟩
theorem xFe {es n : Nat} {z : Bool} {cs : List AV} (h : cs.length = n * es) : src H es (.sl z n cs) = some (n, cs) := if_pos h
def xUe (off n es : Nat) : Option Blk → Option (Nat × List AV)
  | some (.cells _ _ cs) => if off + n * es ≤ cs.length then some (n, (cs.drop off).take (n * es)) else none
  | _ => none
theorem xEp (es n id off : Nat) (z : Bool) : src H es (.own z id off n es) = xUe off n es H[id]? := by
  simp only [src, xUe]
  cases H[id]? with
  | none => rfl
  | some b => cases b <;> simp
theorem xBh {es n off : Nat} {fz z : Bool} {cs : List AV} (h : off + n * es ≤ cs.length) : xUe off n es (some (.cells fz z cs)) = some (n, (cs.drop off).take (n * es)) := if_pos h
def xMO (z : List AV) (bytes : Nat) (H : Heap) : AV → AV → Option (AV × Heap)
  | .sl true _ _, .int _ m => if 0 ≤ m ∧ m.toNat * bytes ≤ xHW ∧ m.toNat ≤ xHW ∧ z.all AV.isCell = true then xKx false (m.toNat == 0) m.toNat z.length (xIV z m.toNat) H else none
  | _, _ => none
theorem xBi (z : List AV) (bytes : Nat) (x n : Arg) : xBw R F H (.appendz z bytes x n) = xMO z bytes H (opv F x) (opv F n) := by
  simp only [xBw]
  cases hn : opv F n with
  | int k m =>
    simp only [xJe]
    by_cases h : 0 ≤ m
    · cases hx : opv F x with
      | sl zz nn cs => cases zz <;> simp [xMO, h]
      | _ => simp [xMO, h]
    · cases hx : opv F x with
      | sl zz nn cs => cases zz <;> simp [xMO, h]
      | _ => simp [xMO, h]
  | _ =>
    cases hx : opv F x with
    | sl zz nn cs => cases zz <;> simp [xMO, xJe]
    | _ => simp [xMO, xJe]
theorem xCg {z : List AV} {bytes n : Nat} {cs : List AV} {k : IntKind} {m : Int} (h0 : 0 ≤ m) (h1 : m.toNat * bytes ≤ 140737488355328) (h2 : m.toNat ≤ 140737488355328) (h3 : z.all AV.isCell = true) : xMO z bytes H (.sl true n cs) (.int k m) = xKx false (m.toNat == 0) m.toNat z.length (xIV z m.toNat) H := if_pos ⟨h0, h1, h2, h3⟩
def xUf : AV → AV → Option AV
  | .int k a, .int _ b => some (.int k (max a b))
  | _, _ => none
def xUg : AV → AV → Option AV
  | .int k a, .int _ b => some (.int k (min a b))
  | _, _ => none
theorem xDg (k k' : IntKind) (a b : Int) : xUf (.int k a) (.int k' b) = some (.int k (max a b)) := rfl
theorem xDh (k k' : IntKind) (a b : Int) : xUg (.int k a) (.int k' b) = some (.int k (min a b)) := rfl
theorem xEq (x y : Arg) : xBw R F H (.maxi x y) = xIO H (xUf (opv F x) (opv F y)) := by
  simp only [xBw]
  cases opv F x with
  | int k a => cases opv F y with
    | int k' b => simp only [xUf, xIO]; congr 3; split <;> omega
    | _ => rfl
  | _ => rfl
theorem xEr (x y : Arg) : xBw R F H (.mini x y) = xIO H (xUg (opv F x) (opv F y)) := by
  simp only [xBw]
  cases opv F x with
  | int k a => cases opv F y with
    | int k' b => simp only [xUg, xIO]; congr 3; split <;> omega
    | _ => rfl
  | _ => rfl

theorem xFf (z : List AV) : xIV z 0 = [] := rfl
theorem xFg (z : List AV) : xIV z 1 = z ++ ([]) := rfl
theorem xFh (z : List AV) : xIV z 2 = z ++ (z ++ ([])) := rfl
theorem xFi (z : List AV) : xIV z 3 = z ++ (z ++ (z ++ ([]))) := rfl
theorem xFj (z : List AV) : xIV z 4 = z ++ (z ++ (z ++ (z ++ ([])))) := rfl
theorem xFk (z : List AV) : xIV z 5 = z ++ (z ++ (z ++ (z ++ (z ++ ([]))))) := rfl
theorem xFl (z : List AV) : xIV z 6 = z ++ (z ++ (z ++ (z ++ (z ++ (z ++ ([])))))) := rfl
theorem xFm (z : List AV) : xIV z 7 = z ++ (z ++ (z ++ (z ++ (z ++ (z ++ (z ++ ([]))))))) := rfl
theorem xFn (z : List AV) : xIV z 8 = z ++ (z ++ (z ++ (z ++ (z ++ (z ++ (z ++ (z ++ ([])))))))) := rfl
theorem xFo (z : List AV) : xIV z 9 = z ++ (z ++ (z ++ (z ++ (z ++ (z ++ (z ++ (z ++ (z ++ ([]))))))))) := rfl
theorem xEs (z : List AV) : xIV z 10 = z ++ (z ++ (z ++ (z ++ (z ++ (z ++ (z ++ (z ++ (z ++ (z ++ ([])))))))))) := rfl
theorem xEt (z : List AV) : xIV z 11 = z ++ (z ++ (z ++ (z ++ (z ++ (z ++ (z ++ (z ++ (z ++ (z ++ (z ++ ([]))))))))))) := rfl
theorem xEu (z : List AV) : xIV z 12 = z ++ (z ++ (z ++ (z ++ (z ++ (z ++ (z ++ (z ++ (z ++ (z ++ (z ++ (z ++ ([])))))))))))) := rfl
theorem xDO (d : Nat) (k : IntKind) (n : Int) : frz d H (.int k n) = some (.int k n) := by cases d <;> rfl
theorem xDi (d : Nat) (b : Bool) : frz d H (.bool b) = some (.bool b) := by cases d <;> rfl
theorem xEv (d : Nat) (b : ByteArray) : frz d H (.str b) = some (.str b) := by cases d <;> rfl
theorem xDj (d : Nat) : frz d H .nilp = some .nilp := by cases d <;> rfl
theorem xDk (d : Nat) : frz d H .nilf = some .nilf := by cases d <;> rfl
theorem xEw (d : Nat) : frz d H .any = some .any := by cases d <;> rfl
theorem xDl (d f : Nat) : frz d H (.func f []) = some (.func f []) := by cases d <;> rfl
theorem xFp (d : Nat) (z : Bool) (n : Nat) (cs : List AV) : frz d H (.sl z n cs) = some (.sl z n cs) := by cases d <;> rfl
theorem xEx (d : Nat) (cs : List AV) : frz (d + 1) H (.agg cs) = (cs.mapM (frz d H)).map AV.agg := rfl
theorem xEy (d : Nat) (cs : List AV) : frz (d + 1) H (.tup cs) = (cs.mapM (frz d H)).map AV.tup := rfl
def xUh (d : Nat) (H : Heap) (z : Bool) (off n es : Nat) : Option Blk → Option AV
  | some (.cells _ _ cs) => if off + n * es ≤ cs.length then slK z n (((cs.drop off).take (n * es)).mapM (frz d H)) else none
  | _ => none
theorem xEz (d : Nat) (z : Bool) (id off n es : Nat) : frz (d + 1) H (.own z id off n es) = xUh d H z off n es H[id]? := by
  simp only [frz, xUh]
  cases H[id]? with
  | none => rfl
  | some b => cases b with
    | cells fz z' cs =>
      simp only
      split
      · cases ((cs.drop off).take (n * es)).mapM (frz d H) <;> rfl
      · rfl
    | _ => rfl
theorem xBj {d off n es : Nat} {z fz z' : Bool} {cs : List AV} (h : off + n * es ≤ cs.length) : xUh d H z off n es (some (.cells fz z' cs)) = slK z n (((cs.drop off).take (n * es)).mapM (frz d H)) := if_pos h

theorem xDN (d : Nat) (k : IntKind) (n : Int) : bor d H (.int k n) = [] := by cases d <;> rfl
theorem xDm (d : Nat) (b : Bool) : bor d H (.bool b) = [] := by cases d <;> rfl
theorem xEA (d : Nat) (b : ByteArray) : bor d H (.str b) = [] := by cases d <;> rfl
theorem xDn (d : Nat) : bor d H .nilp = [] := by cases d <;> rfl
theorem xDo (d : Nat) : bor d H .nilf = [] := by cases d <;> rfl
theorem xEB (d : Nat) : bor d H .any = [] := by cases d <;> rfl
theorem xDp (d f : Nat) (cs : List AV) : bor d H (.func f cs) = [] := by cases d <;> rfl
theorem xEC (d i o : Nat) : bor d H (.ptr i o) = [] := by cases d <;> rfl
theorem xFq (d : Nat) (z : Bool) (n : Nat) (cs : List AV) : bor d H (.sl z n cs) = [] := by cases d <;> rfl
theorem xED (d : Nat) (cs : List AV) : bor (d + 1) H (.agg cs) = cs.flatMap (bor d H) := rfl
theorem xEE (d : Nat) (cs : List AV) : bor (d + 1) H (.tup cs) = cs.flatMap (bor d H) := rfl
def xUi (d : Nat) (H : Heap) (off n es : Nat) : Option Blk → List Nat
  | some (.cells _ _ cs) => ((cs.drop off).take (n * es)).flatMap (bor d H)
  | _ => []
theorem xEF (d : Nat) (z : Bool) (id off n es : Nat) : bor (d + 1) H (.own z id off n es) = id :: xUi d H off n es H[id]? := by
  simp only [bor, xUi]
  cases H[id]? with
  | none => rfl
  | some b => cases b <;> rfl
theorem xBk (d off n es : Nat) (fz z : Bool) (cs : List AV) : xUi d H off n es (some (.cells fz z cs)) = ((cs.drop off).take (n * es)).flatMap (bor d H) := rfl

def xSc (args : List AV) (H : Heap) : Option AV → Option (AV × Heap)
  | some r => some (r, if xGG r = true then H else xFF H (args.flatMap (bor xGb H)))
  | none => none
theorem xCh (args : List AV) (r : AV) : xSc args H (some r) = some (r, if xGG r = true then H else xFF H (args.flatMap (bor xGb H))) := rfl
theorem xCi (args : List AV) : xSc args H none = none := rfl
theorem xDq (args : List AV) {c : Prop} [Decidable c] (x y : Option AV) : xSc args H (if c then x else y) = if c then xSc args H x else xSc args H y := by split <;> rfl
def xUj (R : Rec) (f : Nat) (args : List AV) (H : Heap) : Option (List AV) → Option (AV × Heap)
  | some args' => xSc args H (R.pcall f args')
  | none => none
theorem xCj (f : Nat) (args args' : List AV) : xUj R f args H (some args') = xSc args H (R.pcall f args') := rfl
theorem xCk (f : Nat) (args : List AV) : xHQ R f args H = xUj R f args H (args.mapM (frz xGb H)) := by
  simp only [xHQ, xUj]
  cases args.mapM (frz xGb H) with
  | none => rfl
  | some args' => simp only [xSc]; cases R.pcall f args' <;> rfl
theorem xEG (f : Nat) (args : List Arg) : xBw R F H (.call f args) = xHQ R f (args.map (opv F)) H := rfl
theorem xDr (f : Arg) (args : List Arg) : xBw R F H (.icall f args) = R.icall (opv F f) (args.map (opv F)) H := rfl
def xSd (R : Rec) (args : List AV) (H : Heap) : AV → Option (AV × Heap)
  | .func g caps => xHQ R g (args ++ caps) H
  | _ => none
theorem xAL (args : List AV) (g : Nat) (caps : List AV) : xSd R args H (.func g caps) = xHQ R g (args ++ caps) H := rfl
theorem xDs (f : Arg) (args : List Arg) : xBw R F H (.fcall f args) = xSd R (args.map (opv F)) H (opv F f) := by
  simp only [xBw]
  cases opv F f <;> rfl

def xJu (args : List AV) (H : Heap) : Option (AV × Heap) → Option (AV × Heap)
  | some (r, _) => if xBv r H args = true then some (r, H) else none
  | none => none
theorem xAM (args : List AV) (r : AV) (H' : Heap) : xJu args H (some (r, H')) = if xBv r H args = true then some (r, H) else none := rfl
theorem xAN (args : List AV) : xJu args H none = none := rfl
theorem xBl (args : List AV) {c : Prop} [Decidable c] (x y : Option (AV × Heap)) : xJu args H (if c then x else y) = if c then xJu args H x else xJu args H y := by split <;> rfl
theorem xEH (f : Nat) (args : List Arg) : xHm R F H (.call f args) = xJu (args.map (opv F)) H (xHQ R f (args.map (opv F)) H) := by
  simp only [xHm, xGa, xJu]
  cases xHQ R f (args.map (opv F)) H with
  | none => rfl
  | some r => obtain ⟨r, H'⟩ := r; simp only; split <;> rfl
def xNu (R : Rec) (args : List AV) (H : Heap) : AV → Option (AV × Heap)
  | .func g caps => xJu (args ++ caps) H (xHQ R g (args ++ caps) H)
  | _ => none
theorem xAq (args : List AV) (g : Nat) (caps : List AV) : xNu R args H (.func g caps) = xJu (args ++ caps) H (xHQ R g (args ++ caps) H) := rfl
theorem xDt (f : Arg) (args : List Arg) : xHm R F H (.fcall f args) = xNu R (args.map (opv F)) H (opv F f) := by
  simp only [xHm, xGa, xJu, xNu]
  cases opv F f with
  | func g caps =>
    simp only
    cases xHQ R g (args.map (opv F) ++ caps) H with
    | none => rfl
    | some r => obtain ⟨r, H'⟩ := r; simp only; split <;> rfl
  | _ => rfl
theorem xFr (v : AV) : xHm R F H (.box (.c v)) = if v.cells.all AV.isCell = true then some (.any, H) else none := by
  simp only [xHm, xGa]
  split <;> rfl
def xJr (H : Heap) : Option (AV × Heap) → Option (AV × Heap)
  | some (v, _) => some (v, H)
  | none => none
theorem xCl (v : AV) (H' : Heap) : xJr H (some (v, H')) = some (v, H) := rfl
theorem xCm : xJr H none = none := rfl
theorem xDu {c : Prop} [Decidable c] (x y : Option (AV × Heap)) : xJr H (if c then x else y) = if c then xJr H x else xJr H y := by split <;> rfl
theorem xIm (op : AOp) (h : xGa R F H op = (xBw R F H op).map (·.1)) : xHm R F H op = xJr H (xBw R F H op) := by
  simp only [xHm, h, xJr]
  cases xBw R F H op <;> rfl
theorem xFs (x : Arg) : xHm R F H (.mov x) = xJr H (xBw R F H (.mov x)) := xIm _ rfl
theorem xEI (c a b : Arg) : xHm R F H (.pick c a b) = xJr H (xBw R F H (.pick c a b)) := xIm _ rfl
theorem xDv (z : List AV) (parts : List (Nat × Nat × Arg)) : xHm R F H (.build z parts) = xJr H (xBw R F H (.build z parts)) := xIm _ rfl
theorem xCn (z : List AV) (es n : Nat) (parts : List (Nat × Arg)) : xHm R F H (.bslice true z es n parts) = xJr H (xBw R F H (.bslice true z es n parts)) := xIm _ rfl
theorem xEJ (g : Bool) (n : Nat) (p : Arg) : xHm R F H (.load g n p) = xJr H (xBw R F H (.load g n p)) := xIm _ rfl
theorem xCo (x : Arg) : xHm R F H (.nilchk x) = xJr H (xBw R F H (.nilchk x)) := xIm _ rfl
theorem xFt (op : BinOp) (x y : Arg) : xHm R F H (.bin op x y) = xJr H (xBw R F H (.bin op x y)) := xIm _ rfl
theorem xFu (neg : Bool) (x y : Arg) : xHm R F H (.beq neg x y) = xJr H (xBw R F H (.beq neg x y)) := xIm _ rfl
theorem xDw (neg : Bool) (x : Arg) : xHm R F H (.isnil neg x) = xJr H (xBw R F H (.isnil neg x)) := xIm _ rfl
theorem xFT (op : UnOp) (x : Arg) : xHm R F H (.un op x) = xJr H (xBw R F H (.un op x)) := xIm _ rfl
theorem xEK (k : IntKind) (x : Arg) : xHm R F H (.conv k x) = xJr H (xBw R F H (.conv k x)) := xIm _ rfl
theorem xCp (f : Nat) (caps : List Arg) : xHm R F H (.mkfunc f caps) = xJr H (xBw R F H (.mkfunc f caps)) := xIm _ rfl
theorem xBm (z : List AV) (bytes : Nat) (l c : Arg) : xHm R F H (.mkslice true z bytes l c) = xJr H (xBw R F H (.mkslice true z bytes l c)) := xIm _ rfl
theorem xDx (es : Nat) (x : Arg) (lo hi mx : Option Arg) : xHm R F H (.slice es x lo hi mx) = xJr H (xBw R F H (.slice es x lo hi mx)) := xIm _ rfl
theorem xDy (o : Nat) (x : Arg) : xHm R F H (.faddr o x) = xJr H (xBw R F H (.faddr o x)) := xIm _ rfl
theorem xDz (g : Bool) (off n : Nat) (x : Arg) : xHm R F H (.field g off n x) = xJr H (xBw R F H (.field g off n x)) := xIm _ rfl
theorem xDA (es : Nat) (x i : Arg) : xHm R F H (.iaddr es x i) = xJr H (xBw R F H (.iaddr es x i)) := xIm _ rfl
theorem xFv (i : Nat) (x : Arg) : xHm R F H (.ext i x) = xJr H (xBw R F H (.ext i x)) := xIm _ rfl
theorem xFw (x : Arg) : xHm R F H (.len x) = xJr H (xBw R F H (.len x)) := xIm _ rfl
theorem xFx (x : Arg) : xHm R F H (.cap x) = xJr H (xBw R F H (.cap x)) := xIm _ rfl
theorem xFy (neg : Bool) (n : Nat) (x y : Arg) : xHm R F H (.aeq neg n x y) = xJr H (xBw R F H (.aeq neg n x y)) := xIm _ rfl
theorem xEL (x y : Arg) : xHm R F H (.maxi x y) = xJr H (xBw R F H (.maxi x y)) := xIm _ rfl
theorem xEM (x y : Arg) : xHm R F H (.mini x y) = xJr H (xBw R F H (.mini x y)) := xIm _ rfl
def xSV (es bytes : Nat) (H : Heap) (x : AV) (o : Option (Nat × List AV)) : Option (AV × Heap) := match x with
  | .sl _ _ _ => xJr H (xSb true es bytes H x o)
  | _ => none
theorem xDB (es bytes : Nat) (z : Bool) (n : Nat) (cs : List AV) (o : Option (Nat × List AV)) : xSV es bytes H (.sl z n cs) o = xJr H (xSb true es bytes H (.sl z n cs) o) := rfl
theorem xCq (es bytes : Nat) (x y : Arg) : xHm R F H (.append true es bytes x y) = xSV es bytes H (opv F x) (src H es (opv F y)) := by
  simp only [xHm, xGa, xSV]
  cases h : opv F x with
  | sl z n cs =>
    simp only [xBz, h, xJr]
    cases xSb true es bytes H (.sl z n cs) (src H es (opv F y)) <;> rfl
  | _ => rfl

def xOS (H : Heap) : Option AV → Option (AV × Heap)
  | some v => some (v, H)
  | none => none
theorem xBn (v : AV) : xOS H (some v) = some (v, H) := rfl
def xMP (rs : List ARes) : Option (AExit × St) → Option (AV × Heap)
  | some (.normal, s) => xOS s.H (xHS rs s)
  | some (.ret, s) => xOS s.H (xHS rs s)
  | _ => none
theorem xAr (rs : List ARes) (F : List AV) (H : Heap) : xMP rs (some (.normal, ⟨F, H⟩)) = xOS H (xHS rs ⟨F, H⟩) := rfl
theorem xCr (rs : List ARes) (F : List AV) (H : Heap) : xMP rs (some (.ret, ⟨F, H⟩)) = xOS H (xHS rs ⟨F, H⟩) := rfl
theorem xBo (rs : List ARes) : xMP rs none = none := rfl
theorem xCs (rs : List ARes) {c : Prop} [Decidable c] (x y : Option (AExit × St)) : xMP rs (if c then x else y) = if c then xMP rs x else xMP rs y := by split <;> rfl
def xG1 : Nat → List AV
  | 0 => []
  | n + 1 => .tup [] :: xG1 n
theorem xP5 : ∀ n, List.replicate n (AV.tup []) = xG1 n
  | 0 => rfl
  | n + 1 => by rw [List.replicate_succ, xP5 n]; rfl
theorem xCD (n : Nat) (code : ACode) (rs : List ARes) (args : List AV) : xF8 R ⟨n, code, rs⟩ args H = xMP rs (run R code ⟨args ++ xG1 (n - args.length), H⟩) := by
  rw [← xP5]
  simp only [xF8, xMP, xQD, xOS]
  cases h : run R code ⟨args ++ List.replicate (n - args.length) (.tup []), H⟩ with
  | none => rfl
  | some r =>
    obtain ⟨e, s⟩ := r
    cases e with
    | exit i => rfl
    | _ => simp only; cases xHS rs s <;> rfl
def xKY : Option (AV × Heap) → Option AV
  | some (r, H') => frz xGb H' r
  | none => none
theorem xAO (r : AV) (H' : Heap) : xKY (some (r, H')) = frz xGb H' r := rfl
theorem xAP : xKY none = none := rfl
theorem xBp {c : Prop} [Decidable c] (x y : Option (AV × Heap)) : xKY (if c then x else y) = if c then xKY x else xKY y := by split <;> rfl
theorem xAt (fn : AFunc) (args : List AV) : xFU R fn args = xKY (xF8 R fn args []) := by
  simp only [xFU, xKY]
  cases xF8 R fn args [] <;> rfl
def xSW (g : Bool) : Option (List AV) → Option AV
  | some cs => mkv g cs
  | none => none
theorem xBq (g : Bool) (cs : List AV) : xSW g (some cs) = mkv g cs := rfl
theorem xEN (t : Nat) : xQC ⟨F, H⟩ (.tmp t) = some (F.getD t .any) := rfl
theorem xDC (t : Nat) (g : Bool) (n : Nat) : xQC ⟨F, H⟩ (.cell t g n) = xSW g (rd H (F.getD t .any) n) := by
  simp only [xQC, xSW]
  cases rd H (F.getD t .any) n <;> rfl
theorem xCt : xHS [] s = some (.tup []) := rfl
theorem xCu (r : ARes) : xHS [r] s = xQC s r := rfl
def xUk (s : St) (rs : List ARes) : Option AV → Option (List AV)
  | some v => (xPe s rs).map (v :: ·)
  | none => none
theorem xCv (rs : List ARes) (v : AV) : xUk s rs (some v) = (xPe s rs).map (v :: ·) := rfl
theorem xDD : xPe s [] = some [] := rfl
theorem xCw (r : ARes) (rs : List ARes) : xPe s (r :: rs) = xUk s rs (xQC s r) := by
  simp only [xPe, xUk]
  cases xQC s r <;> rfl
theorem xCx (r r' : ARes) (rs : List ARes) : xHS (r :: r' :: rs) s = (xPe s (r :: r' :: rs)).map .tup := rfl

def xJM (F : List AV) (l : Nat) : Option (AV × Heap) → Option (AExit × St)
  | some (_, H') => match H'[l]? with
    | some (.loop st pend _ _ _ _) => if st = 1 then none else some ((match pend with | none => .normal | some e => e), ⟨F, H'.set l .dead⟩)
    | _ => none
  | none => none
def xP6 (R : Rec) (F : List AV) (H : Heap) (ps : List Nat) (asg body : ACode) : AV → Option (AExit × St)
  | .func g caps => xJM F H.length (R.icall (.func g caps) [.yield H.length] (H ++ [.loop 0 none F ps asg body]))
  | _ => none
theorem xCy (f : Arg) (ps : List Nat) (asg body : ACode) (F : List AV) (H : Heap) : run R (.range f ps asg body) ⟨F, H⟩ = xP6 R F H ps asg body (opv F f) := by
  simp only [run]
  cases opv F f with
  | func g caps =>
    simp only [xP6, xJM]
    cases R.icall (.func g caps) [.yield H.length] (H ++ [.loop 0 none F ps asg body]) with
    | none => rfl
    | some r =>
      obtain ⟨v, H'⟩ := r
      simp only
      cases H'[H.length]? with
      | none => rfl
      | some b => cases b <;> rfl
  | _ => rfl
theorem xAQ (ps : List Nat) (asg body : ACode) (g : Nat) (caps : List AV) : xP6 R F H ps asg body (.func g caps) = xJM F H.length (R.icall (.func g caps) [.yield H.length] (H ++ [.loop 0 none F ps asg body])) := rfl

def xJN (l : Nat) (e : AExit) (H : Heap) : Option Blk → Option (AV × Heap)
  | some (.loop 1 _ F ps asg body) => some (match e with
    | .normal => (.bool true, H.set l (.loop 0 none F ps asg body))
    | e => (.bool false, H.set l (.loop 2 (some e) F ps asg body)))
  | _ => none
def xIn (l : Nat) : Option (AExit × St) → Option (AV × Heap)
  | some (e, s) => xJN l e s.H s.H[l]?
  | none => none
def xKC (R : Rec) (l : Nat) (body0 : ACode) (s : St) : Option Blk → Option (AV × Heap)
  | some (.loop 0 pend F ps asg body) => xIn l (run R body0 ⟨s.F, s.H.set l (.loop 1 pend F ps asg body)⟩)
  | _ => none
def xKD (R : Rec) (l : Nat) (body0 : ACode) : Option (AExit × St) → Option (AV × Heap)
  | some (.normal, s) => xKC R l body0 s s.H[l]?
  | _ => none
def xVg (R : Rec) (l : Nat) (args : List AV) (H : Heap) : Option Blk → Option (AV × Heap)
  | some (.loop 0 _ F ps asg body) => if args.length = ps.length ∧ asg.noRange = true ∧ body.noRange = true then xKD R l body (run R asg ⟨(ps.zip args).foldl (fun F (p, v) => F.set p v) F, H⟩) else none
  | _ => none
theorem xMQ (l : Nat) (args : List AV) (H : Heap) (asg body : ACode) (F : List AV) (ps : List Nat) (pend : Option AExit) (hH : H[l]? = some (.loop 0 pend F ps asg body)) (h1 : args.length = ps.length) (h2 : asg.noRange = true) (h3 : body.noRange = true) :
    xJ0 R l args H = xKD R l body (run R asg ⟨(ps.zip args).foldl (fun F (p, v) => F.set p v) F, H⟩) := by
  unfold xJ0
  rw [hH]
  simp only
  rw [if_pos ⟨h1, h2, h3⟩]
  cases ha : run R asg ⟨(ps.zip args).foldl (fun F (p, v) => F.set p v) F, H⟩ with
  | none => rfl
  | some r =>
    obtain ⟨e, s1⟩ := r
    cases e with
    | normal =>
      simp only [xKD]
      cases hb : s1.H[l]? with
      | none => rfl
      | some b =>
        cases b with
        | loop st pend1 F1 ps1 asg1 body1 =>
          match st with
          | 0 =>
            simp only [xKC]
            cases hr : run R body ⟨s1.F, s1.H.set l (.loop 1 pend1 F1 ps1 asg1 body1)⟩ with
            | none => rfl
            | some r =>
              obtain ⟨e, s2⟩ := r
              simp only [xIn]
              cases hc : s2.H[l]? with
              | none => rfl
              | some b =>
                cases b with
                | loop st2 pend2 F2 ps2 asg2 body2 =>
                  match st2 with
                  | 0 => rfl
                  | 1 => rfl
                  | _ + 2 => rfl
                | _ => rfl
          | _ + 1 => rfl
        | _ => rfl
    | _ => rfl
theorem xAf (l : Nat) (body0 : ACode) (F : List AV) (H : Heap) : xKD R l body0 (some (.normal, ⟨F, H⟩)) = xKC R l body0 ⟨F, H⟩ H[l]? := rfl
theorem xAj (l : Nat) (body0 : ACode) (F : List AV) (H : Heap) (pend : Option AExit) (F1 : List AV) (ps : List Nat) (asg body : ACode) : xKC R l body0 ⟨F, H⟩ (some (.loop 0 pend F1 ps asg body)) = xIn l (run R body0 ⟨F, H.set l (.loop 1 pend F1 ps asg body)⟩) := rfl
theorem xAh (l : Nat) (e : AExit) (F : List AV) (H : Heap) : xIn l (some (e, ⟨F, H⟩)) = xJN l e H H[l]? := rfl
theorem xAk (l : Nat) {c : Prop} [Decidable c] (x y : Option (AExit × St)) : xIn l (if c then x else y) = if c then xIn l x else xIn l y := by split <;> rfl
theorem xAg (l : Nat) (H : Heap) (pend : Option AExit) (F : List AV) (ps : List Nat) (asg body : ACode) : xJN l .normal H (some (.loop 1 pend F ps asg body)) = some (.bool true, H.set l (.loop 0 none F ps asg body)) := rfl
theorem xAl (l i : Nat) (H : Heap) (pend : Option AExit) (F : List AV) (ps : List Nat) (asg body : ACode) : xJN l (.exit i) H (some (.loop 1 pend F ps asg body)) = some (.bool false, H.set l (.loop 2 (some (.exit i)) F ps asg body)) := rfl
theorem xAs (l : Nat) (H : Heap) (pend : Option AExit) (F : List AV) (ps : List Nat) (asg body : ACode) : xJN l .ret H (some (.loop 1 pend F ps asg body)) = some (.bool false, H.set l (.loop 2 (some .ret) F ps asg body)) := rfl
def xKE (F : List AV) (l : Nat) (H : Heap) : Option Blk → Option (AExit × St)
  | some (.loop st pend _ _ _ _) => if st = 1 then none else some ((match pend with | none => .normal | some e => e), ⟨F, H.set l .dead⟩)
  | _ => none
theorem xAm (l : Nat) (v : AV) (H : Heap) : xJM F l (some (v, H)) = xKE F l H H[l]? := by
  simp only [xJM, xKE]
theorem xBr (l : Nat) (H : Heap) (F1 : List AV) (ps : List Nat) (asg body : ACode) : xKE F l H (some (.loop 0 none F1 ps asg body)) = some (.normal, ⟨F, H.set l .dead⟩) := rfl
theorem xBs (l : Nat) (H : Heap) (e : AExit) (F1 : List AV) (ps : List Nat) (asg body : ACode) : xKE F l H (some (.loop 2 (some e) F1 ps asg body)) = some (e, ⟨F, H.set l .dead⟩) := rfl
end
section
variable {R : Rec} {F : List AV} {H : Heap} {s : St}
def xP7 : Option (AV × Heap) → Option (AV × List Blk)
  | some (r, H') => (xIC H' r).map fun (v, B) => (v, B.map (·.2))
  | none => none
theorem xHE (f : Nat) (args : List AV) : xIK R f args = xP7 (R.icall (.func f []) args []) := by
  unfold xIK xP7
  cases R.icall (.func f []) args [] <;> rfl
theorem xGe (r : AV) (H' : Heap) : xP7 (some (r, H')) = (xIC H' r).map fun (v, B) => (v, B.map (·.2)) := rfl
def ocK (H : Heap) (ids : List Nat) : Option (AV × List Blk) → Option (AV × Heap)
  | some (v, B) => some (xHC H.length v, xFF H ids ++ B)
  | none => none
def xP8 (R : Rec) (f : Nat) (H : Heap) (ids : List Nat) : Option (List AV) → Option (AV × Heap)
  | some args' => ocK H ids (xIK R f args')
  | none => none
theorem xHr (f : Nat) (args : List Arg) : xBw R F H (.ocall f args) = xP8 R f H ((args.map (opv F)).flatMap (bor xGb H)) ((args.map (opv F)).mapM (frz xGb H)) := by
  simp only [xBw, xP8]
  cases (args.map (opv F)).mapM (frz xGb H) with
  | none => rfl
  | some args' =>
    simp only [ocK]
    cases xIK R f args' <;> rfl
theorem xGf (f : Nat) (ids : List Nat) (args' : List AV) : xP8 R f H ids (some args') = ocK H ids (xIK R f args') := rfl
theorem xHs (ids : List Nat) (v : AV) (B : List Blk) : ocK H ids (some (v, B)) = some (xHC H.length v, xFF H ids ++ B) := rfl

def t1B (z : Bool) (id off n es : Nat) (B : List (Nat × Blk)) : Option Blk → Option (AV × List (Nat × Blk))
  | some (.cells false z' cs) => if cs.all xHz = true then some (.own z B.length off n es, B ++ [(id, .cells false z' cs)]) else none
  | _ => none
def t1I (z : Bool) (id off n es : Nat) (B : List (Nat × Blk)) (b : Option Blk) : Option Nat → Option (AV × List (Nat × Blk))
  | some k => some (.own z k off n es, B)
  | none => t1B z id off n es B b
theorem xHb (H : Heap) (z : Bool) (id off n es : Nat) (B : List (Nat × Blk)) : xJs H (.own z id off n es) B = t1I z id off n es B H[id]? (B.findIdx? (fun p => p.1 == id)) := by
  simp only [xJs, t1I]
  cases B.findIdx? (fun p => p.1 == id) with
  | some k => rfl
  | none =>
    simp only [t1B]
    cases H[id]? with
    | none => rfl
    | some b => cases b with
      | cells fz z' cs => cases fz <;> rfl
      | _ => rfl
theorem xHH (z : Bool) (id off n es : Nat) (B : List (Nat × Blk)) (b : Option Blk) (k : Nat) : t1I z id off n es B b (some k) = some (.own z k off n es, B) := rfl
theorem xHI (z : Bool) (id off n es : Nat) (B : List (Nat × Blk)) (z' : Bool) (cs : List AV) : t1I z id off n es B (some (.cells false z' cs)) none = if cs.all xHz = true then some (.own z B.length off n es, B ++ [(id, .cells false z' cs)]) else none := rfl
theorem xHc (H : Heap) (k : IntKind) (n : Int) (B : List (Nat × Blk)) : xJs H (.int k n) B = some (.int k n, B) := rfl
theorem xGI (H : Heap) (b : Bool) (B : List (Nat × Blk)) : xJs H (.bool b) B = some (.bool b, B) := rfl
theorem xHt (H : Heap) (z : Bool) (n : Nat) (cs : List AV) (B : List (Nat × Blk)) : xJs H (.sl z n cs) B = some (.sl z n cs, B) := rfl
theorem xHd (H : Heap) (b : ByteArray) (B : List (Nat × Blk)) : xJs H (.str b) B = some (.str b, B) := rfl
def tkL (H : Heap) (vs : List AV) : Option (AV × List (Nat × Blk)) → Option (List AV × List (Nat × Blk))
  | some (v', B') => (xLd H vs B').map fun (vs', B2) => (v' :: vs', B2)
  | none => none
theorem xHe (H : Heap) (B : List (Nat × Blk)) : xLd H [] B = some ([], B) := rfl
theorem xGJ (H : Heap) (v : AV) (vs : List AV) (B : List (Nat × Blk)) : xLd H (v :: vs) B = tkL H vs (xJs H v B) := by
  simp only [xLd, tkL]
  cases xJs H v B <;> rfl
theorem xHu (H : Heap) (vs : List AV) (v' : AV) (B' : List (Nat × Blk)) : tkL H vs (some (v', B')) = (xLd H vs B').map fun (vs', B2) => (v' :: vs', B2) := rfl
theorem xHf (H : Heap) (cs : List AV) (B : List (Nat × Blk)) : xJZ H (.agg cs) B = if cs.all AV.isCell = true then (xLd H cs B).map fun (cs', B') => (.agg cs', B') else none := rfl
theorem xHg (H : Heap) (z : Bool) (id off n es : Nat) (B : List (Nat × Blk)) : xJZ H (.own z id off n es) B = xJs H (.own z id off n es) B := rfl
theorem xHh (H : Heap) (k : IntKind) (n : Int) (B : List (Nat × Blk)) : xJZ H (.int k n) B = some (.int k n, B) := rfl
theorem xGK (H : Heap) (b : Bool) (B : List (Nat × Blk)) : xJZ H (.bool b) B = some (.bool b, B) := rfl
theorem xHv (H : Heap) (z : Bool) (n : Nat) (cs : List AV) (B : List (Nat × Blk)) : xJZ H (.sl z n cs) B = some (.sl z n cs, B) := rfl
def xUl (H : Heap) (vs : List AV) : Option (AV × List (Nat × Blk)) → Option (List AV × List (Nat × Blk))
  | some (v', B') => (xJf H vs B').map fun (vs', B2) => (v' :: vs', B2)
  | none => none
theorem xGL (H : Heap) (B : List (Nat × Blk)) : xJf H [] B = some ([], B) := rfl
theorem xGg (H : Heap) (v : AV) (vs : List AV) (B : List (Nat × Blk)) : xJf H (v :: vs) B = xUl H vs (xJZ H v B) := by
  simp only [xJf, xUl]
  cases xJZ H v B <;> rfl
theorem xHi (H : Heap) (vs : List AV) (v' : AV) (B' : List (Nat × Blk)) : xUl H vs (some (v', B')) = (xJf H vs B').map fun (vs', B2) => (v' :: vs', B2) := rfl
theorem xGh (H : Heap) (vs : List AV) : xIC H (.tup vs) = (xJf H vs []).map fun (vs', B) => (.tup vs', B) := rfl
theorem xGi (H : Heap) (cs : List AV) : xIC H (.agg cs) = xJZ H (.agg cs) [] := rfl
theorem xGj (H : Heap) (z : Bool) (id off n es : Nat) : xIC H (.own z id off n es) = xJs H (.own z id off n es) [] := rfl
theorem xGM (H : Heap) (z : Bool) (n : Nat) (cs : List AV) : xIC H (.sl z n cs) = some (.sl z n cs, []) := rfl

theorem xHj {α : Type} (p : α → Bool) : ([] : List α).findIdx? p = none := rfl
theorem xGN {α : Type} (p : α → Bool) (a : α) (l : List α) : (a :: l).findIdx? p = if p a = true then some 0 else (l.findIdx? p).map (· + 1) := by
  rw [List.findIdx?_cons]

def xP9 (R : Rec) (ls : List (Nat × Nat × Nat × Nat)) (m : Nat) (ops : List AOper) : Option (St × List Pr) → Option (AExit × St)
  | some (s, pl) => xI1 ls (xHn R (ops.drop m) (xGc pl s))
  | none => none
theorem xHk (ls : List (Nat × Nat × Nat × Nat)) (m : Nat) (ops : List AOper) : run R (.drawp ls m ops) s = xP9 R ls m ops (xG9 R (ops.take m) s) := by
  simp only [run, xP9]
  cases xG9 R (ops.take m) s with
  | none => rfl
  | some r =>
    obtain ⟨s1, pl⟩ := r
    simp only [xI1]
    cases xHn R (ops.drop m) (xGc pl s1) <;> rfl
theorem xGk (ls : List (Nat × Nat × Nat × Nat)) (m : Nat) (ops : List AOper) (s : St) (pl : List Pr) : xP9 R ls m ops (some (s, pl)) = xI1 ls (xHn R (ops.drop m) (xGc pl s)) := rfl
def xQa (e : Pr) : Option (St × List Pr) → Option (St × List Pr)
  | some (s, l) => some (s, e :: l)
  | none => none
theorem xGO (e : Pr) (s : St) (l : List Pr) : xQa e (some (s, l)) = some (s, e :: l) := rfl
def xQb (R : Rec) (rest : List AOper) (s : St) : Option Nat → Option (AV × List Blk) → Option (St × List Pr)
  | some t, some (v, B) => xQa (some (t, v, B)) (xG9 R rest ⟨s.F.set t .any, s.H⟩)
  | _, _ => none
def xQc (R : Rec) (rest : List AOper) : Option St → Option (St × List Pr)
  | some s => xQa none (xG9 R rest s)
  | none => none
theorem xGl : xG9 R [] s = some (s, []) := rfl
theorem xFY (o : AOper) (rest : List AOper) : xG9 R (o :: rest) s = if xGC o.op = true then xQb R rest s o.dst (xID R s.F o.op) else xQc R rest (xHo R o s) := by
  simp only [xG9]
  split
  · cases o.dst with
    | none => rfl
    | some t => cases xID R s.F o.op with
      | none => rfl
      | some r =>
        obtain ⟨v, B⟩ := r
        simp only [xQb]
        cases xG9 R rest ⟨s.F.set t .any, s.H⟩ <;> rfl
  · cases xHo R o s with
    | none => rfl
    | some s1 =>
      simp only [xQc]
      cases xG9 R rest s1 <;> rfl
theorem xGm (rest : List AOper) (t : Nat) (v : AV) (B : List Blk) : xQb R rest s (some t) (some (v, B)) = xQa (some (t, v, B)) (xG9 R rest ⟨s.F.set t .any, s.H⟩) := rfl
theorem xGn (rest : List AOper) (s : St) : xQc R rest (some s) = xQa none (xG9 R rest s) := rfl
def xSX : Option (AV × Heap) → Option (AV × List Blk)
  | some (v, B) => if xJ5 v = true ∧ xJg B = true then some (v, B) else none
  | none => none
theorem xHw (op : AOp) : xID R F op = if op.args.all (fun x => xHZ (opv F x)) = true then xSX (xBw R F [] op) else none := by
  unfold xID xSX
  split
  · cases xBw R F [] op <;> rfl
  · rfl
theorem xGP (v : AV) (B : Heap) : xSX (some (v, B)) = if xJ5 v = true ∧ xJg B = true then some (v, B) else none := rfl
theorem xFZ (f : Nat) (as : List Arg) : xGC (.ocall f as) = true := rfl
theorem xGQ (x : Arg) : xGC (.box x) = true := rfl
theorem xGo (z : List AV) (b : Nat) (x y : Arg) : xGC (.mkslice false z b x y) = true := rfl
theorem xGp (z : List AV) (b : Nat) (x y : Arg) : xGC (.mkslice true z b x y) = false := rfl
theorem xGq (z : List AV) (es n : Nat) (ps : List (Nat × Arg)) : xGC (.bslice false z es n ps) = true := rfl
theorem xGr (z : List AV) (es n : Nat) (ps : List (Nat × Arg)) : xGC (.bslice true z es n ps) = false := rfl
theorem xGs (es b : Nat) (x y : Arg) : xGC (.append false es b x y) = true := rfl
theorem xGt (es b : Nat) (x y : Arg) : xGC (.append true es b x y) = false := rfl
theorem xGu (z : List AV) (b : Nat) (x y : Arg) : xGC (.appendz z b x y) = true := rfl
theorem xGR (x : Arg) : xGC (.mov x) = false := rfl
theorem xGv (x y z : Arg) : xGC (.pick x y z) = false := rfl
theorem xF0 (z : List AV) (ps : List (Nat × Nat × Arg)) : xGC (.build z ps) = false := rfl
theorem xGw (g : Bool) (n : Nat) (x : Arg) : xGC (.load g n x) = false := rfl
theorem xFV (x : Arg) : xGC (.nilchk x) = false := rfl
theorem xGS (op : BinOp) (x y : Arg) : xGC (.bin op x y) = false := rfl
theorem xGT (g : Bool) (x y : Arg) : xGC (.beq g x y) = false := rfl
theorem xF1 (g : Bool) (x : Arg) : xGC (.isnil g x) = false := rfl
theorem xHl (op : UnOp) (x : Arg) : xGC (.un op x) = false := rfl
theorem xGx (k : IntKind) (x : Arg) : xGC (.conv k x) = false := rfl
theorem xFW (f : Nat) (as : List Arg) : xGC (.mkfunc f as) = false := rfl
theorem xF2 (es : Nat) (x : Arg) (a b c : Option Arg) : xGC (.slice es x a b c) = false := rfl
theorem xF3 (o : Nat) (x : Arg) : xGC (.faddr o x) = false := rfl
theorem xF4 (g : Bool) (o n : Nat) (x : Arg) : xGC (.field g o n x) = false := rfl
theorem xF5 (es : Nat) (x i : Arg) : xGC (.iaddr es x i) = false := rfl
theorem xGU (i : Nat) (x : Arg) : xGC (.ext i x) = false := rfl
theorem xGV (x : Arg) : xGC (.len x) = false := rfl
theorem xGW (x : Arg) : xGC (.cap x) = false := rfl
theorem xGX (g : Bool) (n : Nat) (x y : Arg) : xGC (.aeq g n x y) = false := rfl
theorem xGy (f : Nat) (as : List Arg) : xGC (.call f as) = false := rfl
theorem xF6 (f : Arg) (as : List Arg) : xGC (.fcall f as) = false := rfl
theorem xGz (x y : Arg) : xGC (.maxi x y) = false := rfl
theorem xGA (x y : Arg) : xGC (.mini x y) = false := rfl
theorem xGB : xJg [] = true := rfl
theorem xF7 (z : Bool) (cs : List AV) (B : List Blk) : xJg (.cells false z cs :: B) = (cs.all xHz && xJg B) := rfl
theorem xL4 {α : Type} {f : α → AV} (h : ∀ a, xHz (f a) = true) (l : List α) : (l.map f).all xHz = true := by
  simp [List.all_eq_true, h]
end
end Go.Abs
