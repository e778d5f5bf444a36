/- The interpreter's equations in the form that simp walks by: one equation for each construct, told apart by what has been computed already. -/
import Derived.Test.YtdkbhidfiplncaaAbsLim
namespace Go.Abs
set_option linter.unusedVariables false
set_option linter.unusedSimpArgs false

theorem xFN : ∀ (scr : List Nat) (F : List AV) (i : Nat), (xBA scr F)[i]? = if i ∈ scr then (F[i]?).map (fun _ => AV.any) else F[i]?
  | [], F, i => by simp [xBA]
  | j :: scr, F, i => by
    have := xFN scr (F.set j .any) i
    simp only [xBA, List.foldl_cons] at this ⊢
    rw [this]
    by_cases h : i = j
    · subst h
      simp only [List.getElem?_set_self', List.mem_cons, true_or, if_true]
      cases F[i]? <;> simp
    · have h' : ¬ j = i := fun e => h e.symm
      simp [List.getElem?_set, h, h']

theorem xNl (scr : List Nat) (F : List AV) : xBA scr (xBA scr F) = xBA scr F := by
  apply List.ext_getElem?
  intro i
  rw [xFN, xFN]
  split
  · cases F[i]? <;> rfl
  · rfl

section
variable {prog : Nat → Option AFunc}

theorem xQ4 (prog : Nat → Option AFunc) (n : Nat) : Tends (fix prog n) (fun _ => lim prog) :=
  ⟨fun f a v h => .all fun _ => xGh ((xFq prog n).pcall f a v h), fun f a H v h => .all fun _ => xGh ((xFq prog n).icall f a H v h), fun scr b s v h => .all fun _ => xGh ((xFq prog n).loop scr b s v h)⟩

theorem Ev.const {p : Prop} (h : Ev fun _ => p) : p := let ⟨n, hn⟩ := h; hn n (Nat.le_refl n)

theorem xQ5 {α : Type} {a b : Option α} (h1 : ∀ v, a = some v → b = some v) (h2 : ∀ v, b = some v → a = some v) : a = b := by
  cases a with
  | some v => exact (h1 v rfl).symm
  | none =>
    cases b with
    | none => rfl
    | some v => exact h2 v rfl

theorem xAG {f : Nat} {fn : AFunc} (hf : prog f = some fn) (args : List AV) : (lim prog).pcall f args = xBw (lim prog) fn args := by
  refine xQ5 (fun v h => ?_) (fun v h => xMm hf h)
  obtain ⟨n, hn⟩ := xDP (p := fun m => (fix prog m).pcall f args) h
  have h1 : (xEu prog (fix prog n)).pcall f args = some v := hn (n + 1) (by omega)
  have h2 := (xC3 (xQ4 prog n) prog).pcall f args v h1 |>.const
  simp only [xEu, hf] at h2
  exact h2

theorem xHt (f : AV) (args : List AV) (H : xAu) : (lim prog).icall f args H = xEF prog (lim prog) f args H := by
  refine xQ5 (fun v h => ?_) (fun v h => xMn h)
  obtain ⟨n, hn⟩ := xDP (p := fun m => (fix prog m).icall f args H) h
  have h1 : (xEu prog (fix prog n)).icall f args H = some v := hn (n + 1) (by omega)
  exact (xC3 (xQ4 prog n) prog).icall f args H v h1 |>.const

theorem xGf (scr : List Nat) (b : ACode) (s : St) : (lim prog).loop scr b s = xI2 (lim prog) scr b s := by
  refine xQ5 (fun v h => ?_) (fun v h => xOY h)
  obtain ⟨n, hn⟩ := xDP (p := fun m => (fix prog m).loop scr b s) h
  have h1 : (xEu prog (fix prog n)).loop scr b s = some v := hn (n + 1) (by omega)
  exact (xC3 (xQ4 prog n) prog).loop scr b s v h1 |>.const

theorem xAH {f : Nat} {fn : AFunc} (hf : prog f = some fn) (caps args : List AV) (H : xAu) : (lim prog).icall (.func f caps) args H = xBN (lim prog) fn (args ++ caps) H := by
  rw [xHt]
  simp only [xEF, hf]

theorem xVv (l : Nat) (args : List AV) (H : xAu) : (lim prog).icall (.yield l) args H = xGQ (lim prog) l args H := by
  rw [xHt]
  rfl

theorem xF6 (scr : List Nat) (b : ACode) (F : List AV) (H : xAu) : (lim prog).loop scr b ⟨F, H⟩ = (lim prog).loop scr b ⟨xBA scr F, H⟩ := by
  rw [xGf, xGf]
  unfold xI2
  simp only [xNl]

def xCo (R : Rec) (scr : List Nat) (b : ACode) : Option (AExit × St) → Option (AExit × St)
  | some (.normal, s) => R.loop scr b ⟨xBA scr s.F, s.H⟩
  | some (e, s) => some (e, ⟨xBA scr s.F, s.H⟩)
  | none => none

theorem xAT (scr : List Nat) (b : ACode) (F : List AV) (H : xAu) (h : xBA scr F = F) : (lim prog).loop scr b ⟨F, H⟩ = xCo (lim prog) scr b (run (lim prog) b ⟨F, H⟩) := by
  rw [xGf]
  unfold xI2 xCo
  simp only [h]
  split
  · rename_i s' hs
    rw [hs]
    exact xF6 scr b s'.F s'.H
  · rename_i e s' hne hs
    rw [hs]
    cases e with
    | normal => exact (hne rfl).elim
    | exit i => rfl
    | ret => rfl
  · rename_i hs
    rw [hs]

theorem xA6 (scr : List Nat) (b : ACode) (F : List AV) (H : xAu) : run (lim prog) (.loop scr b) ⟨F, H⟩ = (lim prog).loop scr b ⟨xBA scr F, H⟩ := xF6 scr b F H
end

section
variable {R : Rec} {F : List AV} {H : xAu} {s : St}

def xTF (R : Rec) (b : ACode) : Option (AExit × St) → Option (AExit × St)
  | some (.normal, s) => run R b s
  | r => r
theorem xAp (a b : ACode) : run R (.seq a b) s = xTF R b (run R a s) := by
  simp only [run, xTF]
  split <;> simp_all
theorem xAd (b : ACode) (s : St) : xTF R b (some (.normal, s)) = run R b s := rfl
theorem xBc (b : ACode) (i : Nat) (s : St) : xTF R b (some (.exit i, s)) = some (.exit i, s) := rfl
theorem xBu (b : ACode) (s : St) : xTF R b (some (.ret, s)) = some (.ret, s) := rfl
theorem xZw (b : ACode) : xTF R b none = none := rfl
theorem yBn (b : ACode) {c : Prop} [Decidable c] (x y : Option (AExit × St)) : xTF R b (if c then x else y) = if c then xTF R b x else xTF R b y := by split <;> rfl

def xWq (R : Rec) (a b : ACode) (s : St) : AV → Option (AExit × St)
  | .bool t => if t = true then run R a s else run R b s
  | _ => none
theorem xAo (c : Arg) (a b : ACode) (F : List AV) (H : xAu) : run R (.cond c a b) ⟨F, H⟩ = xWq R a b ⟨F, H⟩ (opv F c) := by
  simp only [run, xWq]
  split <;> simp_all
theorem xAn (a b : ACode) (t : Bool) : xWq R a b s (.bool t) = if t = true then run R a s else run R b s := rfl

def xGx (id : Nat) : Option (AExit × St) → Option (AExit × St)
  | some (.exit i, s) => if i = id then some (.normal, s) else some (.exit i, s)
  | r => r
theorem xAr (id : Nat) (b : ACode) : run R (.block id b) s = xGx id (run R b s) := by
  simp only [run, xGx]
  split <;> simp_all
theorem xAS (id i : Nat) (s : St) : xGx id (some (.exit i, s)) = if i = id then some (.normal, s) else some (.exit i, s) := rfl
theorem xAs (id : Nat) (s : St) : xGx id (some (.normal, s)) = some (.normal, s) := rfl
theorem xBs (id : Nat) (s : St) : xGx id (some (.ret, s)) = some (.ret, s) := rfl
theorem xWr (id : Nat) : xGx id none = none := rfl
theorem xYy (id : Nat) {c : Prop} [Decidable c] (x y : Option (AExit × St)) : xGx id (if c then x else y) = if c then xGx id x else xGx id y := by split <;> rfl

theorem xAv (scr : List Nat) (b : ACode) (F : List AV) (H : xAu) : xCo R scr b (some (.normal, ⟨F, H⟩)) = R.loop scr b ⟨xBA scr F, H⟩ := rfl
theorem xA3 (scr : List Nat) (b : ACode) (i : Nat) (F : List AV) (H : xAu) : xCo R scr b (some (.exit i, ⟨F, H⟩)) = some (.exit i, ⟨xBA scr F, H⟩) := rfl
theorem xCs (scr : List Nat) (b : ACode) (F : List AV) (H : xAu) : xCo R scr b (some (.ret, ⟨F, H⟩)) = some (.ret, ⟨xBA scr F, H⟩) := rfl
theorem xZx (scr : List Nat) (b : ACode) {c : Prop} [Decidable c] (x y : Option (AExit × St)) : xCo R scr b (if c then x else y) = if c then xCo R scr b x else xCo R scr b y := by split <;> rfl

def xS5 : Option St → Option (AExit × St)
  | some s => some (.normal, s)
  | none => none
theorem xAj (s : St) : xS5 (some s) = some (.normal, s) := rfl
theorem xZy : xS5 none = none := rfl
theorem yBo {c : Prop} [Decidable c] (x y : Option St) : xS5 (if c then x else y) = if c then xS5 x else xS5 y := by split <;> rfl
theorem xAf (ops : List AOper) : run R (.region ops) s = xS5 (xBK R ops s) := by
  simp only [run, xS5]
  cases xBK R ops s <;> rfl
theorem xAx : run R .skip s = some (.normal, s) := rfl
theorem xIo : run R .label s = some (.normal, s) := rfl
theorem xBt (i : Nat) : run R (.exit i) s = some (.exit i, s) := rfl
theorem xAW : run R .ret s = some (.ret, s) := rfl
theorem xIp (b : ACode) : run R (.scope b) s = run R b s := rfl
theorem xZz : run R .stuck s = none := rfl

def xWs (R : Rec) (rest : List AOper) : Option St → Option St
  | some s => xBK R rest s
  | none => none
theorem xAg : xBK R [] s = some s := rfl
theorem xAc (o : AOper) (rest : List AOper) : xBK R (o :: rest) s = xWs R rest (xBQ R o s) := by
  simp only [xBK, xWs]
  cases xBQ R o s <;> rfl
theorem xAi (rest : List AOper) (s : St) : xWs R rest (some s) = xBK R rest s := rfl
theorem xZA (rest : List AOper) : xWs R rest none = none := rfl
theorem yBp (rest : List AOper) {c : Prop} [Decidable c] (x y : Option St) : xWs R rest (if c then x else y) = if c then xWs R rest x else xWs R rest y := by split <;> rfl

def xQ6 (F : List AV) (d : Option Nat) : Option (AV × xAu) → Option St
  | some (v, H) => some ⟨putA F d v, H⟩
  | none => none
theorem xAq (d : Nat) (v : AV) : xQ6 F (some d) (some (v, H)) = some ⟨F.set d v, H⟩ := rfl
theorem xBl (v : AV) : xQ6 F none (some (v, H)) = some ⟨F, H⟩ := rfl
theorem xZB (d : Option Nat) : xQ6 F d none = none := rfl
theorem yBq (d : Option Nat) {c : Prop} [Decidable c] (x y : Option (AV × xAu)) : xQ6 F d (if c then x else y) = if c then xQ6 F d x else xQ6 F d y := by split <;> rfl
theorem xAk (d : Option Nat) (op : AOp) : xBQ R ⟨d, op, none⟩ ⟨F, H⟩ = xQ6 F d (xAm R F H op) := by
  simp only [xBQ, xDw, xQ6]
  cases xAm R F H op <;> rfl
def xOS (R : Rec) (d : Option Nat) (op : AOp) (w : Bool) (F : List AV) (H : xAu) : AV → Option St
  | .bool b => if b = w then xQ6 F d (xAm R F H op) else some ⟨putA F d (.tup []), H⟩
  | .any => none
  | _ => some ⟨putA F d (.tup []), H⟩
theorem xAM (d : Option Nat) (op : AOp) (t : Nat) (w : Bool) : xBQ R ⟨d, op, some (t, w)⟩ ⟨F, H⟩ = xOS R d op w F H (F.getD t .any) := by
  simp only [xBQ, xDw, xOS]
  cases F.getD t .any with
  | bool b =>
    cases b <;> cases w <;> simp [xQ6] <;> cases xAm R F H op <;> rfl
  | _ => rfl
theorem xAD (d : Option Nat) (op : AOp) (w b : Bool) : xOS R d op w F H (.bool b) = if b = w then xQ6 F d (xAm R F H op) else some ⟨putA F d (.tup []), H⟩ := rfl
theorem xJM (d : Option Nat) (op : AOp) (w : Bool) (vs : List AV) : xOS R d op w F H (.tup vs) = some ⟨putA F d (.tup []), H⟩ := rfl
theorem xCy (d : Nat) (v : AV) : putA F (some d) v = F.set d v := rfl
theorem yCv (v : AV) : putA F none v = F := rfl

def xNm (R : Rec) (m : Nat) (ops : List AOper) : Option St → Option (AExit × St)
  | some s => xS5 (xBK R (ops.drop m) (xCt (ops.take m) s))
  | none => none
theorem xBI (m : Nat) (ops : List AOper) : run R (.draw m ops) s = xNm R m ops (xCC R (ops.take m) s) := by
  simp only [run, xNm]
  cases xCC R (ops.take m) s with
  | none => rfl
  | some s1 =>
    simp only [xS5]
    cases xBK R (ops.drop m) (xCt (ops.take m) s1) <;> rfl
theorem xBn (m : Nat) (ops : List AOper) (s : St) : xNm R m ops (some s) = xS5 (xBK R (ops.drop m) (xCt (ops.take m) s)) := rfl
theorem xYz (m : Nat) (ops : List AOper) : xNm R m ops none = none := rfl
theorem xZC (m : Nat) (ops : List AOper) {c : Prop} [Decidable c] (x y : Option St) : xNm R m ops (if c then x else y) = if c then xNm R m ops x else xNm R m ops y := by split <;> rfl

def xD9 (ls : List (Nat × Nat × Nat × Nat)) : Option St → Option (AExit × St)
  | some s => if ls.all (apart s.F) = true then some (.normal, s) else none
  | none => none
def xIq (R : Rec) (ls : List (Nat × Nat × Nat × Nat)) (m : Nat) (ops : List AOper) : Option St → Option (AExit × St)
  | some s => xD9 ls (xBK R (ops.drop m) (xCt (ops.take m) s))
  | none => none
theorem xZD (ls : List (Nat × Nat × Nat × Nat)) (m : Nat) (ops : List AOper) : run R (.drawl ls m ops) s = xIq R ls m ops (xCC R (ops.take m) s) := by
  simp only [run, xIq]
  cases xCC R (ops.take m) s with
  | none => rfl
  | some s1 =>
    simp only [xD9]
    cases xBK R (ops.drop m) (xCt (ops.take m) s1) <;> rfl
theorem xWt (ls : List (Nat × Nat × Nat × Nat)) (m : Nat) (ops : List AOper) (s : St) : xIq R ls m ops (some s) = xD9 ls (xBK R (ops.drop m) (xCt (ops.take m) s)) := rfl
theorem xWu (ls : List (Nat × Nat × Nat × Nat)) (m : Nat) (ops : List AOper) : xIq R ls m ops none = none := rfl
theorem xYA (ls : List (Nat × Nat × Nat × Nat)) (m : Nat) (ops : List AOper) {c : Prop} [Decidable c] (x y : Option St) : xIq R ls m ops (if c then x else y) = if c then xIq R ls m ops x else xIq R ls m ops y := by split <;> rfl
theorem xEM (ls : List (Nat × Nat × Nat × Nat)) (s : St) : xD9 ls (some s) = if ls.all (apart s.F) = true then some (.normal, s) else none := rfl
theorem xWv (ls : List (Nat × Nat × Nat × Nat)) : xD9 ls none = none := rfl
theorem xYB (ls : List (Nat × Nat × Nat × Nat)) {c : Prop} [Decidable c] (x y : Option St) : xD9 ls (if c then x else y) = if c then xD9 ls x else xD9 ls y := by split <;> rfl

def xNn (R : Rec) (rest : List AOper) : Option St → Option St
  | some s => xCC R rest s
  | none => none
theorem xBe : xCC R [] s = some s := rfl
theorem xA5 (o : AOper) (rest : List AOper) : xCC R (o :: rest) s = xNn R rest (xB0 R o s) := by
  simp only [xCC, xNn]
  cases xB0 R o s <;> rfl
theorem xBo (rest : List AOper) (s : St) : xNn R rest (some s) = xCC R rest s := rfl
theorem xYC (rest : List AOper) : xNn R rest none = none := rfl
theorem xZE (rest : List AOper) {c : Prop} [Decidable c] (x y : Option St) : xNn R rest (if c then x else y) = if c then xNn R rest x else xNn R rest y := by split <;> rfl

def xIr (F : List AV) (d : Option Nat) (H : xAu) : Option (AV × xAu) → Option St
  | some (v, _) => some ⟨putA F d v, H⟩
  | none => none
theorem xBC (d : Nat) (v : AV) (H' : xAu) : xIr F (some d) H (some (v, H')) = some ⟨F.set d v, H⟩ := rfl
theorem yBr (v : AV) (H' : xAu) : xIr F none H (some (v, H')) = some ⟨F, H⟩ := rfl
theorem xYD (d : Option Nat) : xIr F d H none = none := rfl
theorem xZF (d : Option Nat) {c : Prop} [Decidable c] (x y : Option (AV × xAu)) : xIr F d H (if c then x else y) = if c then xIr F d H x else xIr F d H y := by split <;> rfl

def xBZ (R : Rec) (F : List AV) (H : xAu) (op : AOp) : Option (AV × xAu) := (xBx R F H op).map fun v => (v, H)
theorem xBf (d : Option Nat) (op : AOp) : xB0 R ⟨d, op, none⟩ ⟨F, H⟩ = xIr F d H (xBZ R F H op) := by
  simp only [xB0, xDw, xIr, xBZ]
  cases xBx R F H op <;> rfl
def xKn (R : Rec) (d : Option Nat) (op : AOp) (w : Bool) (F : List AV) (H : xAu) : AV → Option St
  | .bool b => if b = w then xIr F d H (xBZ R F H op) else some ⟨putA F d (.tup []), H⟩
  | .any => none
  | _ => some ⟨putA F d (.tup []), H⟩
theorem xCl (d : Option Nat) (op : AOp) (t : Nat) (w : Bool) : xB0 R ⟨d, op, some (t, w)⟩ ⟨F, H⟩ = xKn R d op w F H (F.getD t .any) := by
  simp only [xB0, xDw, xKn]
  cases F.getD t .any with
  | bool b =>
    cases b <;> cases w <;> simp [xIr, xBZ] <;> cases xBx R F H op <;> rfl
  | _ => rfl
theorem xB9 (d : Option Nat) (op : AOp) (w b : Bool) : xKn R d op w F H (.bool b) = if b = w then xIr F d H (xBZ R F H op) else some ⟨putA F d (.tup []), H⟩ := rfl
theorem xWw (d : Option Nat) (op : AOp) (w : Bool) (vs : List AV) : xKn R d op w F H (.tup vs) = some ⟨putA F d (.tup []), H⟩ := rfl

def xDY (H : xAu) : Option AV → Option (AV × xAu)
  | some v => some (v, H)
  | none => none
theorem xAl (v : AV) : xDY H (some v) = some (v, H) := rfl
theorem xZG : xDY H none = none := rfl
theorem yBs {c : Prop} [Decidable c] (x y : Option AV) : xDY H (if c then x else y) = if c then xDY H x else xDY H y := by split <;> rfl

theorem xAA (x : Arg) : xAm R F H (.mov x) = some (opv F x, H) := rfl
def xWx : AV → AV → AV → Option AV
  | .bool t, a, b => some (if t = true then a else b)
  | _, _, _ => none
theorem xAN (t : Bool) (a b : AV) : xWx (.bool t) a b = some (if t = true then a else b) := rfl
theorem xBb (c a b : Arg) : xAm R F H (.pick c a b) = xDY H (xWx (opv F c) (opv F a) (opv F b)) := by
  simp only [xAm, xWx, xDY]
  split <;> simp_all
theorem xBz (x : Arg) : xAm R F H (.box x) = if (opv F x).cells.all AV.isCell = true then some (.ptr H.length 0, H ++ [.cells false false (opv F x).cells]) else none := rfl
theorem xCv (z : List AV) (parts : List (Nat × Nat × Arg)) : xAm R F H (.build z parts) =
    if parts.all (fun p => (opv F p.2.2).cells.length == p.2.1) = true then xDY H ((xCd z (parts.map fun p => (p.1, (opv F p.2.2).cells))).map AV.agg) else none := by
  simp only [xAm, xDY]
  split
  · cases xCd z (parts.map fun p => (p.1, (opv F p.2.2).cells)) <;> rfl
  · rfl
def yCw (fz z : Bool) (n es : Nat) (H : xAu) : Option (List AV) → Option (AV × xAu)
  | some cs => xFj fz z n es cs H
  | none => none
theorem xBO (fz z : Bool) (n es : Nat) (cs : List AV) : yCw fz z n es H (some cs) = xFj fz z n es cs H := rfl
theorem xCR (z : Bool) (n es : Nat) (cs : List AV) : xFj false z n es cs H = some (.own z H.length 0 n es, H ++ [.cells false z cs]) := rfl
def slK (z : Bool) (n : Nat) : Option (List AV) → Option AV
  | some cs => some (.sl z n cs)
  | none => none
theorem xB6 (z : Bool) (n : Nat) (cs : List AV) : slK z n (some cs) = some (.sl z n cs) := rfl
theorem xB5 (z : Bool) (n es : Nat) (cs : List AV) : xFj true z n es cs H = if (cs.flatMap (bor xBL H)).isEmpty = true then xDY H (slK z n (cs.mapM (frz xBL H))) else none := by
  simp only [xFj, xDY, slK]
  split
  · rename_i h
    cases cs.mapM (frz xBL H) <;> simp_all
  · simp_all
theorem xBP (fz : Bool) (z : List AV) (es n : Nat) (parts : List (Nat × Arg)) : xAm R F H (.bslice fz z es n parts) =
    if parts.all (fun p => (opv F p.2).cells.length == es) = true then yCw fz false n es H (xCd (xEf z n) (parts.map fun p => (p.1 * es, (opv F p.2).cells))) else none := by
  simp only [xAm, yCw]
  split
  · cases xCd (xEf z n) (parts.map fun p => (p.1 * es, (opv F p.2).cells)) <;> rfl
  · rfl
def xTG (g : Bool) : Option (List AV) → Option AV
  | some cs => mkv g cs
  | none => none
theorem xAO (v : AV) : xTG false (some [v]) = some v := rfl
theorem xBH (cs : List AV) : xTG true (some cs) = some (.agg cs) := rfl
theorem xAJ (g : Bool) (n : Nat) (p : Arg) : xAm R F H (.load g n p) = xDY H (xTG g (rd H (opv F p) n)) := by
  simp only [xAm, xDY, xTG]
  cases rd H (opv F p) n with
  | none => rfl
  | some cs => simp only; cases mkv g cs <;> rfl
def rdK (off n : Nat) : Option Blk → Option (List AV)
  | some (.cells _ _ cs) => if off + n ≤ cs.length then some ((cs.drop off).take n) else none
  | _ => none
theorem xA1 (id off n : Nat) : rd H (.ptr id off) n = rdK off n H[id]? := by
  simp only [rd, rdK]
  rfl
theorem xAt {off n : Nat} {fz z : Bool} {cs : List AV} (h : off + n ≤ cs.length) : rdK off n (some (.cells fz z cs)) = some ((cs.drop off).take n) := if_pos h
theorem xBj {off n : Nat} {cs : List AV} (h : off + n ≤ cs.length) : rd H (.vptr cs off) n = some ((cs.drop off).take n) := if_pos h

def wrK (H : xAu) (id off : Nat) (vs : List AV) : Option Blk → Option xAu
  | some (.cells false z cs) => if off + vs.length ≤ cs.length ∧ vs.all AV.isCell = true then some (H.set id (.cells false z (xBd cs off vs))) else none
  | _ => none
theorem xBE (id off : Nat) (vs : List AV) : wr H (.ptr id off) vs = wrK H id off vs H[id]? := by
  simp only [wr, wrK]
  rfl
theorem xAX {id off : Nat} {vs : List AV} {z : Bool} {cs : List AV} (h : off + vs.length ≤ cs.length) (h2 : vs.all AV.isCell = true) : wrK H id off vs (some (.cells false z cs)) = some (H.set id (.cells false z (xBd cs off vs))) := if_pos ⟨h, h2⟩
def xQ7 : Option xAu → Option (AV × xAu)
  | some H => some (.tup [], H)
  | none => none
theorem xAK (H : xAu) : xQ7 (some H) = some (.tup [], H) := rfl
theorem xA4 (n : Nat) (p v : Arg) : xAm R F H (.store n p v) = if (opv F v).cells.length = n then xQ7 (wr H (opv F p) (opv F v).cells) else none := by
  simp only [xAm, xQ7]
  split
  · cases wr H (opv F p) (opv F v).cells <;> rfl
  · rfl
def xZH : AV → Option AV
  | .ptr id off => some (.ptr id off)
  | .vptr cs off => some (.vptr cs off)
  | .func f caps => some (.func f caps)
  | .yield l => some (.yield l)
  | _ => none
theorem yBt (id off : Nat) : xZH (.ptr id off) = some (.ptr id off) := rfl
theorem xZI (cs : List AV) (off : Nat) : xZH (.vptr cs off) = some (.vptr cs off) := rfl
theorem xZJ (f : Nat) (cs : List AV) : xZH (.func f cs) = some (.func f cs) := rfl
theorem xYE (l : Nat) : xZH (.yield l) = some (.yield l) := rfl
theorem xZK (x : Arg) : xAm R F H (.nilchk x) = xDY H (xZH (opv F x)) := by
  simp only [xAm]
  cases opv F x <;> rfl
theorem xAy (op : BinOp) (x y : Arg) : xAm R F H (.bin op x y) = xDY H (xEY op (opv F x) (opv F y)) := by
  simp only [xAm, xDY]
  cases xEY op (opv F x) (opv F y) <;> rfl

section
variable (k : IntKind) (a b : Int)
theorem xBa : xEY .add (.int k a) (.int k b) = some (.int k (k.wrap (a + b))) := by simp [xEY]
theorem xFl : xEY .sub (.int k a) (.int k b) = some (.int k (k.wrap (a - b))) := by simp [xEY]
theorem xWy : xEY .mul (.int k a) (.int k b) = some (.int k (k.wrap (a * b))) := by simp [xEY]
theorem yCx (h : b ≠ 0) : xEY .quo (.int k a) (.int k b) = some (.int k (k.wrap (a.tdiv b))) := by simp [xEY, h]
theorem xNo (h : b ≠ 0) : xEY .rem (.int k a) (.int k b) = some (.int k (a.tmod b)) := by simp [xEY, h]
theorem xCS : xEY .and (.int k a) (.int k b) = some (.int k (xFE .and k a b)) := by simp [xEY]
theorem xIs : xEY .or (.int k a) (.int k b) = some (.int k (xFE .or k a b)) := by simp [xEY]
theorem yCy : xEY .xor (.int k a) (.int k b) = some (.int k (xFE .xor k a b)) := by simp [xEY]
theorem xYF : xEY .andNot (.int k a) (.int k b) = some (.int k (xFE .andNot k a b)) := by simp [xEY]
theorem xDb (k' : IntKind) (h : 0 ≤ b) : xEY .shl (.int k a) (.int k' b) = some (.int k (k.wrap (a * 2 ^ (min b.toNat k.bits)))) := by simp only [xEY]; rw [if_neg (by omega)]
theorem xCT (k' : IntKind) (h : 0 ≤ b) : xEY .shr (.int k a) (.int k' b) = some (.int k (a.fdiv (2 ^ (min b.toNat k.bits)))) := by simp only [xEY]; rw [if_neg (by omega)]
theorem xBM : xEY .eql (.int k a) (.int k b) = some (.bool (decide (a = b))) := by simp [xEY]; rfl
theorem xBm : xEY .neq (.int k a) (.int k b) = some (.bool (!decide (a = b))) := by simp [xEY]; rfl
theorem xAz : xEY .lss (.int k a) (.int k b) = some (.bool (decide (a < b))) := by simp [xEY]
theorem xDV : xEY .leq (.int k a) (.int k b) = some (.bool (decide (a ≤ b))) := by simp [xEY]
theorem xCm : xEY .gtr (.int k a) (.int k b) = some (.bool (decide (b < a))) := by simp [xEY]
theorem xCz : xEY .geq (.int k a) (.int k b) = some (.bool (decide (b ≤ a))) := by simp [xEY]
end

def yCz (neg : Bool) : AV → AV → Option AV
  | .bool a, .bool b => some (.bool (if neg = true then a != b else a == b))
  | _, _ => none
theorem xZL (a b : Bool) : yCz false (.bool a) (.bool b) = some (.bool (decide (a = b))) := by cases a <;> cases b <;> rfl
theorem xVw (a b : Bool) : yCz true (.bool a) (.bool b) = some (.bool (!decide (a = b))) := by cases a <;> cases b <;> rfl
theorem xQ8 (neg : Bool) (x y : Arg) : xAm R F H (.beq neg x y) = xDY H (yCz neg (opv F x) (opv F y)) := by
  simp only [xAm]
  cases opv F x <;> cases opv F y <;> rfl
def xMe (neg : Bool) : AV → Option AV
  | .sl z _ _ => some (.bool (z != neg))
  | .own z _ _ _ _ => some (.bool (z != neg))
  | _ => none
theorem xYG (z : Bool) (n : Nat) (cs : List AV) : xMe false (.sl z n cs) = some (.bool z) := by cases z <;> rfl
theorem xYH (z : Bool) (n : Nat) (cs : List AV) : xMe true (.sl z n cs) = some (.bool (!z)) := by cases z <;> rfl
theorem xWz (z : Bool) (id off n es : Nat) : xMe false (.own z id off n es) = some (.bool z) := by cases z <;> rfl
theorem xWA (z : Bool) (id off n es : Nat) : xMe true (.own z id off n es) = some (.bool (!z)) := by cases z <;> rfl
theorem yBu (neg : Bool) (x : Arg) : xAm R F H (.isnil neg x) = xDY H (xMe neg (opv F x)) := by
  simp only [xAm]
  cases opv F x <;> rfl
theorem xHI (op : UnOp) (x : Arg) : xAm R F H (.un op x) = xDY H (unA op (opv F x)) := by
  simp only [xAm, xDY]
  cases unA op (opv F x) <;> rfl
theorem xE7 (b : Bool) : unA .not (.bool b) = some (.bool !b) := rfl
theorem yD0 (k : IntKind) (n : Int) : unA .neg (.int k n) = some (.int k (k.wrap (0 - n))) := rfl
theorem yD1 (k : IntKind) (n : Int) : unA .xor (.int k n) = some (.int k (xFE .xor k (if k.signed then -1 else k.max) n)) := rfl
def xZM (k : IntKind) : AV → Option AV
  | .int _ n => some (.int k (k.wrap n))
  | _ => none
theorem xCW (k k' : IntKind) (n : Int) : xZM k (.int k' n) = some (.int k (k.wrap n)) := rfl
theorem xDW (k : IntKind) (x : Arg) : xAm R F H (.conv k x) = xDY H (xZM k (opv F x)) := by
  simp only [xAm]
  cases opv F x <;> rfl
theorem xDL (f : Nat) (caps : List Arg) : xAm R F H (.mkfunc f caps) = some (.func f (caps.map (opv F)), H) := rfl
def yD2 (fz : Bool) (z : List AV) (bytes : Nat) (H : xAu) : AV → AV → Option (AV × xAu)
  | .int _ l, .int _ c => if 0 ≤ l ∧ l ≤ c ∧ c * bytes ≤ xCX ∧ c ≤ xCX ∧ z.all AV.isCell = true then xFj fz false l.toNat z.length (xEf z l.toNat) H else none
  | _, _ => none
theorem xGy (fz : Bool) (z : List AV) (bytes : Nat) (k k' : IntKind) {l c : Int} (h1 : 0 ≤ l) (h2 : l ≤ c) (h3 : c * bytes ≤ 140737488355328) (h4 : c ≤ 140737488355328) (h5 : z.all AV.isCell = true) : yD2 fz z bytes H (.int k l) (.int k' c) = xFj fz false l.toNat z.length (xEf z l.toNat) H := if_pos ⟨h1, h2, h3, h4, h5⟩
theorem xEw (fz : Bool) (z : List AV) (bytes : Nat) (l c : Arg) : xAm R F H (.mkslice fz z bytes l c) = yD2 fz z bytes H (opv F l) (opv F c) := by
  simp only [xAm]
  cases opv F l <;> cases opv F c <;> rfl

def xWB (es : Nat) (H : xAu) (x : AV) : Option (Nat × Nat) → Option AV
  | none => none
  | some (l, h) => match x with
    | .sl z _ cs => some (.sl z (h - l) ((cs.drop (l * es)).take ((h - l) * es)))
    | .own z id off _ _ => some (.own z id (off + l * es) (h - l) es)
    | _ => none
def xOT (es : Nat) (H : xAu) (lo hi mx : Option AV) : AV → Option AV
  | .sl z n cs => if cs.length = n * es then xWB es H (.sl z n cs) (xCP n lo hi mx) else none
  | .own z id off n es' => if es' = es then xWB es H (.own z id off n es') (xCP n lo hi mx) else none
  | _ => none
theorem xKo (es : Nat) (x : Arg) (lo hi mx : Option Arg) : xAm R F H (.slice es x lo hi mx) = xDY H (xOT es H (lo.map (opv F)) (hi.map (opv F)) (mx.map (opv F)) (opv F x)) := by
  simp only [xAm, xDY, xOT, xWB]
  cases opv F x with
  | sl z n cs =>
    simp only
    split
    · cases xCP n (lo.map (opv F)) (hi.map (opv F)) (mx.map (opv F)) <;> rfl
    · rfl
  | own z id off n es' =>
    simp only
    split
    · cases xCP n (lo.map (opv F)) (hi.map (opv F)) (mx.map (opv F)) <;> rfl
    · rfl
  | _ => rfl
theorem xMf {es n : Nat} {z : Bool} {cs : List AV} (lo hi mx : Option AV) (h : cs.length = n * es) : xOT es H lo hi mx (.sl z n cs) = xWB es H (.sl z n cs) (xCP n lo hi mx) := if_pos h
theorem xPA {es n id off : Nat} {z : Bool} (lo hi mx : Option AV) : xOT es H lo hi mx (.own z id off n es) = xWB es H (.own z id off n es) (xCP n lo hi mx) := if_pos rfl
theorem xQ9 (es : Nat) (z : Bool) (n : Nat) (cs : List AV) (l h : Nat) : xWB es H (.sl z n cs) (some (l, h)) = some (.sl z (h - l) ((cs.drop (l * es)).take ((h - l) * es))) := rfl
theorem xTH (es : Nat) (z : Bool) (id off n es' : Nat) (l h : Nat) : xWB es H (.own z id off n es') (some (l, h)) = some (.own z id (off + l * es) (h - l) es) := rfl
theorem xZN (n : Nat) : xCP n none none none = some (0, n) := by simp [xCP]
theorem xZO {n : Nat} {k : IntKind} {l : Int} (h0 : 0 ≤ l) (h : l ≤ n) : xCP n (some (.int k l)) none none = some (l.toNat, n) := by
  simp only [xCP, xCJ, if_pos h0]
  rw [if_pos ⟨by omega, by omega⟩]
theorem xIt {n : Nat} {k : IntKind} {m : Int} (h0 : 0 ≤ m) (h : m ≤ n) : xCP n none (some (.int k m)) none = some (0, m.toNat) := by
  simp only [xCP, xCJ, if_pos h0]
  rw [if_pos ⟨by omega, by omega⟩]
theorem xZP {n : Nat} {k k' : IntKind} {l m : Int} (h0 : 0 ≤ l) (h1 : l ≤ m) (h : m ≤ n) : xCP n (some (.int k l)) (some (.int k' m)) none = some (l.toNat, m.toNat) := by
  have h2 : 0 ≤ m := by omega
  simp only [xCP, xCJ, if_pos h0, if_pos h2]
  rw [if_pos ⟨by omega, by omega⟩]
def xRa (o : Nat) : AV → Option AV
  | .ptr id off => some (.ptr id (off + o))
  | .vptr cs off => some (.vptr cs (off + o))
  | _ => none
theorem xAB (o id off : Nat) : xRa o (.ptr id off) = some (.ptr id (off + o)) := rfl
theorem xEN (o : Nat) (cs : List AV) (off : Nat) : xRa o (.vptr cs off) = some (.vptr cs (off + o)) := rfl
theorem xAV (o : Nat) (x : Arg) : xAm R F H (.faddr o x) = xDY H (xRa o (opv F x)) := by
  simp only [xAm]
  cases opv F x <;> rfl
def xRb (g : Bool) (off n : Nat) : AV → Option AV
  | .agg cs => if off + n ≤ cs.length then mkv g ((cs.drop off).take n) else none
  | _ => none
theorem xYI {g : Bool} {off n : Nat} {cs : List AV} (h : off + n ≤ cs.length) : xRb g off n (.agg cs) = mkv g ((cs.drop off).take n) := if_pos h
theorem xGg (v : AV) : mkv false [v] = some v := rfl
theorem xHJ (cs : List AV) : mkv true cs = some (.agg cs) := rfl
theorem yBv (g : Bool) (off n : Nat) (x : Arg) : xAm R F H (.field g off n x) = xDY H (xRb g off n (opv F x)) := by
  simp only [xAm]
  cases opv F x with
  | agg cs =>
    simp only [xRb, xDY]
    split
    · cases mkv g ((cs.drop off).take n) <;> rfl
    · rfl
  | _ => rfl
def xJN (es : Nat) : AV → AV → Option AV
  | .sl _ n cs, .int _ i => if 0 ≤ i ∧ i.toNat < n then some (.vptr cs (i.toNat * es)) else none
  | .own _ id off n es', .int _ i => if 0 ≤ i ∧ i.toNat < n ∧ es' = es then some (.ptr id (off + i.toNat * es)) else none
  | _, _ => none
theorem xAY {es n : Nat} {z : Bool} {cs : List AV} {k : IntKind} {i : Int} (h0 : 0 ≤ i) (h : i < n) : xJN es (.sl z n cs) (.int k i) = some (.vptr cs (i.toNat * es)) := if_pos ⟨h0, by omega⟩
theorem xBU {es n id off : Nat} {z : Bool} {k : IntKind} {i : Int} (h0 : 0 ≤ i) (h : i < n) : xJN es (.own z id off n es) (.int k i) = some (.ptr id (off + i.toNat * es)) := if_pos ⟨h0, by omega, rfl⟩
theorem xAZ (es : Nat) (x i : Arg) : xAm R F H (.iaddr es x i) = xDY H (xJN es (opv F x) (opv F i)) := by
  simp only [xAm]
  cases opv F x with
  | sl z n cs =>
    cases opv F i with
    | int k j =>
      simp only [xCJ, xJN, xDY]
      by_cases h : 0 ≤ j
      · by_cases h2 : j.toNat < n <;> simp [h, h2]
      · simp [h]
    | _ => rfl
  | own z id off n es' =>
    cases opv F i with
    | int k j =>
      simp only [xCJ, xJN, xDY]
      by_cases h : 0 ≤ j
      · by_cases h2 : j.toNat < n
        · by_cases h3 : es' = es <;> simp [h, h2, h3]
        · simp [h, h2]
      · simp [h]
    | _ => rfl
  | _ => cases opv F i <;> simp [xJN, xDY, xCJ] <;> split <;> simp_all
def yCA (i : Nat) : AV → Option AV
  | .tup vs => vs[i]?
  | _ => none
theorem xEO (i : Nat) (vs : List AV) : yCA i (.tup vs) = vs[i]? := rfl
theorem xIu (i : Nat) (x : Arg) : xAm R F H (.ext i x) = xDY H (yCA i (opv F x)) := by
  simp only [xAm]
  cases opv F x with
  | tup vs => simp only [yCA, xDY]; cases vs[i]? <;> rfl
  | _ => rfl
def yCB : AV → Option AV
  | .sl _ n _ => some (.int .i64 n)
  | .own _ _ _ n _ => some (.int .i64 n)
  | _ => none
theorem xA8 (z : Bool) (n : Nat) (cs : List AV) : yCB (.sl z n cs) = some (.int .i64 n) := rfl
theorem xC0 (z : Bool) (id off n es : Nat) : yCB (.own z id off n es) = some (.int .i64 n) := rfl
theorem xBk (x : Arg) : xAm R F H (.len x) = xDY H (yCB (opv F x)) := by
  simp only [xAm]
  cases opv F x <;> rfl
theorem yD3 (x : Arg) : xAm R F H (.cap x) = match opv F x with
  | .sl true _ _ => some (.int .i64 0, H)
  | _ => none := rfl
def yCC (neg : Bool) (n : Nat) : AV → AV → Option AV
  | .agg cs, .agg ds => if cs.length = n then (xEe cs ds).map fun b => .bool (b != neg) else none
  | _, _ => none
theorem yBw {neg : Bool} {n : Nat} {cs ds : List AV} (h : cs.length = n) : yCC neg n (.agg cs) (.agg ds) = (xEe cs ds).map fun b => .bool (b != neg) := if_pos h
theorem yD4 (neg : Bool) (n : Nat) (x y : Arg) : xAm R F H (.aeq neg n x y) = xDY H (yCC neg n (opv F x) (opv F y)) := by
  simp only [xAm]
  cases opv F x with
  | agg cs => cases opv F y with
    | agg ds =>
      simp only [yCC, xDY]
      split
      · cases xEe cs ds <;> rfl
      · rfl
    | _ => rfl
  | _ => rfl

def xPB (fz : Bool) (es bytes : Nat) (H : xAu) (x : AV) : Option (Nat × List AV) → Option (AV × xAu)
  | none => none
  | some (m, ys) => match x with
    | .sl true _ _ => if m * bytes ≤ xCX ∧ m ≤ xCX then xFj fz (m == 0) m es ys H else none
    | .own z id off n es' => match H[id]? with
      | some (.cells false _ cs) => if off = 0 ∧ es' = es ∧ n * es ≤ cs.length ∧ (n + m) * bytes ≤ xCX ∧ n + m ≤ xCX then
          some (.own (z && m == 0) H.length 0 (n + m) es, H.set id .dead ++ [.cells false (z && m == 0) (cs.take (n * es) ++ ys)]) else none
      | _ => none
    | _ => none
theorem xBT (fz : Bool) (es bytes : Nat) (x y : Arg) : xAm R F H (.append fz es bytes x y) = xPB fz es bytes H (opv F x) (src H es (opv F y)) := by
  simp only [xAm, xPB]
  cases src H es (opv F y) <;> rfl
theorem xDK {fz : Bool} {es bytes n m : Nat} {cs ys : List AV} (h : m * bytes ≤ 140737488355328) (h2 : m ≤ 140737488355328) : xPB fz es bytes H (.sl true n cs) (some (m, ys)) = xFj fz (m == 0) m es ys H := if_pos ⟨h, h2⟩
def xWC (es bytes n m : Nat) (H : xAu) (z : Bool) (id : Nat) (ys : List AV) : Option Blk → Option (AV × xAu)
  | some (.cells false _ cs) => if n * es ≤ cs.length ∧ (n + m) * bytes ≤ xCX ∧ n + m ≤ xCX then
      some (.own (z && m == 0) H.length 0 (n + m) es, H.set id .dead ++ [.cells false (z && m == 0) (cs.take (n * es) ++ ys)]) else none
  | _ => none
theorem xDh (fz : Bool) (es bytes n m id : Nat) (z : Bool) (ys : List AV) : xPB fz es bytes H (.own z id 0 n es) (some (m, ys)) = xWC es bytes n m H z id ys H[id]? := by
  simp only [xPB, xWC]
  split
  · rename_i z' cs hb
    by_cases h : n * es ≤ cs.length ∧ (n + m) * bytes ≤ xCX ∧ n + m ≤ xCX
    · rw [if_pos h, if_pos ⟨trivial, trivial, h⟩]
    · rw [if_neg h, if_neg (fun g => h g.2.2)]
  · rename_i hne
    cases hb : H[id]? with
    | none => rfl
    | some b => cases b with
      | cells fz z cs => cases fz with
        | false => exact (hne _ _ hb).elim
        | true => rfl
      | _ => rfl
theorem xCG {es bytes n m id : Nat} {z z' : Bool} {ys cs : List AV} (h : n * es ≤ cs.length) (h2 : (n + m) * bytes ≤ 140737488355328) (h3 : n + m ≤ 140737488355328) : xWC es bytes n m H z id ys (some (.cells false z' cs)) =
    some (.own (z && m == 0) H.length 0 (n + m) es, H.set id .dead ++ [.cells false (z && m == 0) (cs.take (n * es) ++ ys)]) := if_pos ⟨h, h2, h3⟩
theorem xDk {es n : Nat} {z : Bool} {cs : List AV} (h : cs.length = n * es) : src H es (.sl z n cs) = some (n, cs) := if_pos h
def yCD (off n es : Nat) : Option Blk → Option (Nat × List AV)
  | some (.cells _ _ cs) => if off + n * es ≤ cs.length then some (n, (cs.drop off).take (n * es)) else none
  | _ => none
theorem xFm (es n id off : Nat) (z : Bool) : src H es (.own z id off n es) = yCD off n es H[id]? := by
  simp only [src, yCD]
  cases H[id]? with
  | none => rfl
  | some b => cases b <;> simp
theorem xDl {es n off : Nat} {fz z : Bool} {cs : List AV} (h : off + n * es ≤ cs.length) : yCD off n es (some (.cells fz z cs)) = some (n, (cs.drop off).take (n * es)) := if_pos h
def xMg (z : List AV) (bytes : Nat) (H : xAu) : AV → AV → Option (AV × xAu)
  | .sl true _ _, .int _ m => if 0 ≤ m ∧ m.toNat * bytes ≤ xCX ∧ m.toNat ≤ xCX ∧ z.all AV.isCell = true then xFj false (m.toNat == 0) m.toNat z.length (xEf z m.toNat) H else none
  | _, _ => none
theorem xYJ (z : List AV) (bytes : Nat) (x n : Arg) : xAm R F H (.appendz z bytes x n) = xMg z bytes H (opv F x) (opv F n) := by
  simp only [xAm]
  cases hn : opv F n with
  | int k m =>
    simp only [xCJ]
    by_cases h : 0 ≤ m
    · cases hx : opv F x with
      | sl zz nn cs => cases zz <;> simp [xMg, h]
      | _ => simp [xMg, h]
    · cases hx : opv F x with
      | sl zz nn cs => cases zz <;> simp [xMg, h]
      | _ => simp [xMg, h]
  | _ =>
    cases hx : opv F x with
    | sl zz nn cs => cases zz <;> simp [xMg, xCJ]
    | _ => simp [xMg, xCJ]
theorem xZQ {z : List AV} {bytes n : Nat} {cs : List AV} {k : IntKind} {m : Int} (h0 : 0 ≤ m) (h1 : m.toNat * bytes ≤ 140737488355328) (h2 : m.toNat ≤ 140737488355328) (h3 : z.all AV.isCell = true) : xMg z bytes H (.sl true n cs) (.int k m) = xFj false (m.toNat == 0) m.toNat z.length (xEf z m.toNat) H := if_pos ⟨h0, h1, h2, h3⟩
def yCE : AV → AV → Option AV
  | .int k a, .int _ b => some (.int k (max a b))
  | _, _ => none
def yCF : AV → AV → Option AV
  | .int k a, .int _ b => some (.int k (min a b))
  | _, _ => none
theorem yBx (k k' : IntKind) (a b : Int) : yCE (.int k a) (.int k' b) = some (.int k (max a b)) := rfl
theorem xHN (k k' : IntKind) (a b : Int) : yCF (.int k a) (.int k' b) = some (.int k (min a b)) := rfl
theorem yCG (x y : Arg) : xAm R F H (.maxi x y) = xDY H (yCE (opv F x) (opv F y)) := by
  simp only [xAm]
  cases opv F x with
  | int k a => cases opv F y with
    | int k' b => simp only [yCE, xDY]; congr 3; split <;> omega
    | _ => rfl
  | _ => rfl
theorem xKp (x y : Arg) : xAm R F H (.mini x y) = xDY H (yCF (opv F x) (opv F y)) := by
  simp only [xAm]
  cases opv F x with
  | int k a => cases opv F y with
    | int k' b => simp only [yCF, xDY]; congr 3; split <;> omega
    | _ => rfl
  | _ => rfl

theorem yD5 (z : List AV) : xEf z 0 = [] := rfl
theorem xC1 (z : List AV) : xEf z 1 = z ++ ([]) := rfl
theorem yD6 (z : List AV) : xEf z 2 = z ++ (z ++ ([])) := rfl
theorem yD7 (z : List AV) : xEf z 3 = z ++ (z ++ (z ++ ([]))) := rfl
theorem yD8 (z : List AV) : xEf z 4 = z ++ (z ++ (z ++ (z ++ ([])))) := rfl
theorem yD9 (z : List AV) : xEf z 5 = z ++ (z ++ (z ++ (z ++ (z ++ ([]))))) := rfl
theorem yEa (z : List AV) : xEf z 6 = z ++ (z ++ (z ++ (z ++ (z ++ (z ++ ([])))))) := rfl
theorem yEb (z : List AV) : xEf z 7 = z ++ (z ++ (z ++ (z ++ (z ++ (z ++ (z ++ ([]))))))) := rfl
theorem yEc (z : List AV) : xEf z 8 = z ++ (z ++ (z ++ (z ++ (z ++ (z ++ (z ++ (z ++ ([])))))))) := rfl
theorem yEd (z : List AV) : xEf z 9 = z ++ (z ++ (z ++ (z ++ (z ++ (z ++ (z ++ (z ++ (z ++ ([]))))))))) := rfl
theorem yCH (z : List AV) : xEf z 10 = z ++ (z ++ (z ++ (z ++ (z ++ (z ++ (z ++ (z ++ (z ++ (z ++ ([])))))))))) := rfl
theorem yCI (z : List AV) : xEf z 11 = z ++ (z ++ (z ++ (z ++ (z ++ (z ++ (z ++ (z ++ (z ++ (z ++ (z ++ ([]))))))))))) := rfl
theorem yCJ (z : List AV) : xEf z 12 = z ++ (z ++ (z ++ (z ++ (z ++ (z ++ (z ++ (z ++ (z ++ (z ++ (z ++ (z ++ ([])))))))))))) := rfl
theorem xA0 (d : Nat) (k : IntKind) (n : Int) : frz d H (.int k n) = some (.int k n) := by cases d <;> rfl
theorem xB2 (d : Nat) (b : Bool) : frz d H (.bool b) = some (.bool b) := by cases d <;> rfl
theorem yCK (d : Nat) (b : ByteArray) : frz d H (.str b) = some (.str b) := by cases d <;> rfl
theorem yBy (d : Nat) : frz d H .nilp = some .nilp := by cases d <;> rfl
theorem yBz (d : Nat) : frz d H .nilf = some .nilf := by cases d <;> rfl
theorem yCL (d : Nat) : frz d H .any = some .any := by cases d <;> rfl
theorem yBA (d f : Nat) : frz d H (.func f []) = some (.func f []) := by cases d <;> rfl
theorem xCa (d : Nat) (z : Bool) (n : Nat) (cs : List AV) : frz d H (.sl z n cs) = some (.sl z n cs) := by cases d <;> rfl
theorem xCA (d : Nat) (cs : List AV) : frz (d + 1) H (.agg cs) = (cs.mapM (frz d H)).map AV.agg := rfl
theorem xG2 (d : Nat) (cs : List AV) : frz (d + 1) H (.tup cs) = (cs.mapM (frz d H)).map AV.tup := rfl
def yCM (d : Nat) (H : xAu) (z : Bool) (off n es : Nat) : Option Blk → Option AV
  | some (.cells _ _ cs) => if off + n * es ≤ cs.length then slK z n (((cs.drop off).take (n * es)).mapM (frz d H)) else none
  | _ => none
theorem xKq (d : Nat) (z : Bool) (id off n es : Nat) : frz (d + 1) H (.own z id off n es) = yCM d H z off n es H[id]? := by
  simp only [frz, yCM]
  cases H[id]? with
  | none => rfl
  | some b => cases b with
    | cells fz z' cs =>
      simp only
      split
      · cases ((cs.drop off).take (n * es)).mapM (frz d H) <;> rfl
      · rfl
    | _ => rfl
theorem xFO {d off n es : Nat} {z fz z' : Bool} {cs : List AV} (h : off + n * es ≤ cs.length) : yCM d H z off n es (some (.cells fz z' cs)) = slK z n (((cs.drop off).take (n * es)).mapM (frz d H)) := if_pos h

theorem xCn (d : Nat) (k : IntKind) (n : Int) : bor d H (.int k n) = [] := by cases d <;> rfl
theorem xFP (d : Nat) (b : Bool) : bor d H (.bool b) = [] := by cases d <;> rfl
theorem yCN (d : Nat) (b : ByteArray) : bor d H (.str b) = [] := by cases d <;> rfl
theorem yBB (d : Nat) : bor d H .nilp = [] := by cases d <;> rfl
theorem yBC (d : Nat) : bor d H .nilf = [] := by cases d <;> rfl
theorem yCO (d : Nat) : bor d H .any = [] := by cases d <;> rfl
theorem yBD (d f : Nat) (cs : List AV) : bor d H (.func f cs) = [] := by cases d <;> rfl
theorem yEe (ss : List Nat) (b : ACode) (s : St) : run R (.fz ss b) s = run R b ⟨s.F, xDj s.H (ss.flatMap fun i => bor xBL s.H (s.F.getD i .any))⟩ := rfl
def yCP (R : Rec) (i : Nat) (b : ACode) (s : St) (ids : List Nat) : Option AV → Option (AExit × St)
  | some v => run R b ⟨s.F.set i v, xDj s.H ids⟩
  | none => none
theorem yCQ (i : Nat) (b : ACode) (s : St) : run R (.fzs i b) s = yCP R i b s (bor xBL s.H (s.F.getD i .any)) (frz xBL s.H (s.F.getD i .any)) := by
  simp only [run, yCP]
  cases frz xBL s.H (s.F.getD i .any) <;> rfl
theorem xZR (i : Nat) (b : ACode) (s : St) (ids : List Nat) (v : AV) : yCP R i b s ids (some v) = run R b ⟨s.F.set i v, xDj s.H ids⟩ := rfl
def yCR (d : Nat) (H : xAu) (off : Nat) : Option Blk → Option AV
  | some (.cells _ _ cs) => (cs.mapM (frz d H)).map fun cs' => .vptr cs' off
  | _ => none
theorem xRc (d i o : Nat) : frz (d + 1) H (.ptr i o) = yCR d H o H[i]? := by
  simp only [frz, yCR]
  cases H[i]? with
  | none => rfl
  | some b => cases b <;> rfl
theorem xJO (d : Nat) (o : Nat) (fz z : Bool) (cs : List AV) : yCR d H o (some (.cells fz z cs)) = (cs.mapM (frz d H)).map fun cs' => .vptr cs' o := rfl
theorem yBE (d : Nat) (cs : List AV) (o : Nat) : frz d H (.vptr cs o) = some (.vptr cs o) := by cases d <;> rfl
def xWD (d : Nat) (H : xAu) : Option Blk → List Nat
  | some (.cells _ _ cs) => cs.flatMap (bor d H)
  | _ => []
theorem xRd (d i o : Nat) : bor (d + 1) H (.ptr i o) = i :: xWD d H H[i]? := by
  simp only [bor, xWD]
  cases H[i]? with
  | none => rfl
  | some b => cases b <;> rfl
theorem xIv (d : Nat) (fz z : Bool) (cs : List AV) : xWD d H (some (.cells fz z cs)) = cs.flatMap (bor d H) := rfl
theorem yBF (d : Nat) (cs : List AV) (o : Nat) : bor d H (.vptr cs o) = [] := by cases d <;> rfl
def xWE : Option Blk → Bool
  | some (.cells true _ _) => true
  | _ => false
theorem xJP (i : Nat) : xHg H i = xWE H[i]? := by
  simp only [xHg, xWE]
  cases H[i]? with
  | none => rfl
  | some b => cases b with
    | cells fz z cs => cases fz <;> rfl
    | _ => rfl
theorem yCS (z : Bool) (cs : List AV) : xWE (some (.cells true z cs)) = true := rfl
theorem xIw (d : Nat) (z : Bool) (n : Nat) (cs : List AV) : bor d H (.sl z n cs) = [] := by cases d <;> rfl
theorem xIx (d : Nat) (cs : List AV) : bor (d + 1) H (.agg cs) = cs.flatMap (bor d H) := rfl
theorem yCT (d : Nat) (cs : List AV) : bor (d + 1) H (.tup cs) = cs.flatMap (bor d H) := rfl
def yCU (d : Nat) (H : xAu) (off n es : Nat) : Option Blk → List Nat
  | some (.cells _ _ cs) => ((cs.drop off).take (n * es)).flatMap (bor d H)
  | _ => []
theorem xRe (d : Nat) (z : Bool) (id off n es : Nat) : bor (d + 1) H (.own z id off n es) = id :: yCU d H off n es H[id]? := by
  simp only [bor, yCU]
  cases H[id]? with
  | none => rfl
  | some b => cases b <;> rfl
theorem xJQ (d off n es : Nat) (fz z : Bool) (cs : List AV) : yCU d H off n es (some (.cells fz z cs)) = ((cs.drop off).take (n * es)).flatMap (bor d H) := rfl

def xVx (args : List AV) (H : xAu) : Option AV → Option (AV × xAu)
  | some r => some (r, if xDT r = true then H else xDj H (args.flatMap (bor xBL H)))
  | none => none
theorem xBg (args : List AV) (r : AV) : xVx args H (some r) = some (r, if xDT r = true then H else xDj H (args.flatMap (bor xBL H))) := rfl
theorem xZS (args : List AV) : xVx args H none = none := rfl
theorem yBG (args : List AV) {c : Prop} [Decidable c] (x y : Option AV) : xVx args H (if c then x else y) = if c then xVx args H x else xVx args H y := by split <;> rfl
def yCV (R : Rec) (f : Nat) (args : List AV) (H : xAu) : Option (List AV) → Option (AV × xAu)
  | some args' => xVx args H (R.pcall f args')
  | none => none
theorem xBh (f : Nat) (args args' : List AV) : yCV R f args H (some args') = xVx args H (R.pcall f args') := rfl
theorem xBi (f : Nat) (args : List AV) : xC2 R f args H = yCV R f args H (args.mapM (frz xBL H)) := by
  simp only [xC2, yCV]
  cases args.mapM (frz xBL H) with
  | none => rfl
  | some args' => simp only [xVx]; cases R.pcall f args' <;> rfl
theorem xBJ (f : Nat) (args : List Arg) : xAm R F H (.call f args) = xC2 R f (args.map (opv F)) H := rfl
theorem xCb (f : Arg) (args : List Arg) : xAm R F H (.icall f args) = R.icall (opv F f) (args.map (opv F)) H := rfl
def xVy (R : Rec) (args : List AV) (H : xAu) : AV → Option (AV × xAu)
  | .func g caps => xC2 R g (args ++ caps) H
  | _ => none
theorem xWF (args : List AV) (g : Nat) (caps : List AV) : xVy R args H (.func g caps) = xC2 R g (args ++ caps) H := rfl
theorem yBH (f : Arg) (args : List Arg) : xAm R F H (.fcall f args) = xVy R (args.map (opv F)) H (opv F f) := by
  simp only [xAm]
  cases opv F f <;> rfl

def xF7 (args : List AV) (H : xAu) : Option (AV × xAu) → Option (AV × xAu)
  | some (r, _) => if xCY r H args = true then some (r, H) else none
  | none => none
theorem xDC (args : List AV) (r : AV) (H' : xAu) : xF7 args H (some (r, H')) = if xCY r H args = true then some (r, H) else none := rfl
theorem xWG (args : List AV) : xF7 args H none = none := rfl
theorem xYK (args : List AV) {c : Prop} [Decidable c] (x y : Option (AV × xAu)) : xF7 args H (if c then x else y) = if c then xF7 args H x else xF7 args H y := by split <;> rfl
theorem xKr (f : Nat) (args : List Arg) : xBZ R F H (.call f args) = xF7 (args.map (opv F)) H (xC2 R f (args.map (opv F)) H) := by
  simp only [xBZ, xBx, xF7]
  cases xC2 R f (args.map (opv F)) H with
  | none => rfl
  | some r => obtain ⟨r, H'⟩ := r; simp only; split <;> rfl
def xNp (R : Rec) (args : List AV) (H : xAu) : AV → Option (AV × xAu)
  | .func g caps => xF7 (args ++ caps) H (xC2 R g (args ++ caps) H)
  | _ => none
theorem xHu (args : List AV) (g : Nat) (caps : List AV) : xNp R args H (.func g caps) = xF7 (args ++ caps) H (xC2 R g (args ++ caps) H) := rfl
theorem xOU (f : Arg) (args : List Arg) : xBZ R F H (.fcall f args) = xNp R (args.map (opv F)) H (opv F f) := by
  simp only [xBZ, xBx, xF7, xNp]
  cases opv F f with
  | func g caps =>
    simp only
    cases xC2 R g (args.map (opv F) ++ caps) H with
    | none => rfl
    | some r => obtain ⟨r, H'⟩ := r; simp only; split <;> rfl
  | _ => rfl
theorem xVz (v : AV) : xBZ R F H (.box (.c v)) = if v.cells.all AV.isCell = true then some (.any, H) else none := by
  simp only [xBZ, xBx]
  split <;> rfl
def xE8 (H : xAu) : Option (AV × xAu) → Option (AV × xAu)
  | some (v, _) => some (v, H)
  | none => none
theorem xBq (v : AV) (H' : xAu) : xE8 H (some (v, H')) = some (v, H) := rfl
theorem xZT : xE8 H none = none := rfl
theorem yBI {c : Prop} [Decidable c] (x y : Option (AV × xAu)) : xE8 H (if c then x else y) = if c then xE8 H x else xE8 H y := by split <;> rfl
theorem xDv (op : AOp) (h : xBx R F H op = (xAm R F H op).map (·.1)) : xBZ R F H op = xE8 H (xAm R F H op) := by
  simp only [xBZ, h, xE8]
  cases xAm R F H op <;> rfl
theorem xCx (x : Arg) : xBZ R F H (.mov x) = xE8 H (xAm R F H (.mov x)) := xDv _ rfl
theorem xFn (c a b : Arg) : xBZ R F H (.pick c a b) = xE8 H (xAm R F H (.pick c a b)) := xDv _ rfl
theorem xOV (z : List AV) (parts : List (Nat × Nat × Arg)) : xBZ R F H (.build z parts) = xE8 H (xAm R F H (.build z parts)) := xDv _ rfl
theorem xZU (z : List AV) (es n : Nat) (parts : List (Nat × Arg)) : xBZ R F H (.bslice true z es n parts) = xE8 H (xAm R F H (.bslice true z es n parts)) := xDv _ rfl
theorem xBR (g : Bool) (n : Nat) (p : Arg) : xBZ R F H (.load g n p) = xE8 H (xAm R F H (.load g n p)) := xDv _ rfl
theorem xZV (x : Arg) : xBZ R F H (.nilchk x) = xE8 H (xAm R F H (.nilchk x)) := xDv _ rfl
theorem xEa (op : BinOp) (x y : Arg) : xBZ R F H (.bin op x y) = xE8 H (xAm R F H (.bin op x y)) := xDv _ rfl
theorem yEf (neg : Bool) (x y : Arg) : xBZ R F H (.beq neg x y) = xE8 H (xAm R F H (.beq neg x y)) := xDv _ rfl
theorem yBJ (neg : Bool) (x : Arg) : xBZ R F H (.isnil neg x) = xE8 H (xAm R F H (.isnil neg x)) := xDv _ rfl
theorem yFk (op : UnOp) (x : Arg) : xBZ R F H (.un op x) = xE8 H (xAm R F H (.un op x)) := xDv _ rfl
theorem xFo (k : IntKind) (x : Arg) : xBZ R F H (.conv k x) = xE8 H (xAm R F H (.conv k x)) := xDv _ rfl
theorem xZW (f : Nat) (caps : List Arg) : xBZ R F H (.mkfunc f caps) = xE8 H (xAm R F H (.mkfunc f caps)) := xDv _ rfl
theorem xYL (z : List AV) (bytes : Nat) (l c : Arg) : xBZ R F H (.mkslice true z bytes l c) = xE8 H (xAm R F H (.mkslice true z bytes l c)) := xDv _ rfl
theorem xOW (es : Nat) (x : Arg) (lo hi mx : Option Arg) : xBZ R F H (.slice es x lo hi mx) = xE8 H (xAm R F H (.slice es x lo hi mx)) := xDv _ rfl
theorem xBY (o : Nat) (x : Arg) : xBZ R F H (.faddr o x) = xE8 H (xAm R F H (.faddr o x)) := xDv _ rfl
theorem yBK (g : Bool) (off n : Nat) (x : Arg) : xBZ R F H (.field g off n x) = xE8 H (xAm R F H (.field g off n x)) := xDv _ rfl
theorem xCg (es : Nat) (x i : Arg) : xBZ R F H (.iaddr es x i) = xE8 H (xAm R F H (.iaddr es x i)) := xDv _ rfl
theorem yEg (i : Nat) (x : Arg) : xBZ R F H (.ext i x) = xE8 H (xAm R F H (.ext i x)) := xDv _ rfl
theorem xIy (x : Arg) : xBZ R F H (.len x) = xE8 H (xAm R F H (.len x)) := xDv _ rfl
theorem yEh (x : Arg) : xBZ R F H (.cap x) = xE8 H (xAm R F H (.cap x)) := xDv _ rfl
theorem yEi (neg : Bool) (n : Nat) (x y : Arg) : xBZ R F H (.aeq neg n x y) = xE8 H (xAm R F H (.aeq neg n x y)) := xDv _ rfl
theorem yCW (x y : Arg) : xBZ R F H (.maxi x y) = xE8 H (xAm R F H (.maxi x y)) := xDv _ rfl
theorem xRf (x y : Arg) : xBZ R F H (.mini x y) = xE8 H (xAm R F H (.mini x y)) := xDv _ rfl
def xWH (es bytes : Nat) (H : xAu) (x : AV) (o : Option (Nat × List AV)) : Option (AV × xAu) := match x with
  | .sl _ _ _ => xE8 H (xPB true es bytes H x o)
  | _ => none
theorem yBL (es bytes : Nat) (z : Bool) (n : Nat) (cs : List AV) (o : Option (Nat × List AV)) : xWH es bytes H (.sl z n cs) o = xE8 H (xPB true es bytes H (.sl z n cs) o) := rfl
theorem xZX (es bytes : Nat) (x y : Arg) : xBZ R F H (.append true es bytes x y) = xWH es bytes H (opv F x) (src H es (opv F y)) := by
  simp only [xBZ, xBx, xWH]
  cases h : opv F x with
  | sl z n cs =>
    simp only [xBT, h, xE8]
    cases xPB true es bytes H (.sl z n cs) (src H es (opv F y)) <;> rfl
  | _ => rfl

def xPC (H : xAu) : Option AV → Option (AV × xAu)
  | some v => some (v, H)
  | none => none
theorem xAw (v : AV) : xPC H (some v) = some (v, H) := rfl
def xMh (rs : List ARes) : Option (AExit × St) → Option (AV × xAu)
  | some (.normal, s) => xPC s.H (xC8 rs s)
  | some (.ret, s) => xPC s.H (xC8 rs s)
  | _ => none
theorem xMi (rs : List ARes) (F : List AV) (H : xAu) : xMh rs (some (.normal, ⟨F, H⟩)) = xPC H (xC8 rs ⟨F, H⟩) := rfl
theorem xAI (rs : List ARes) (F : List AV) (H : xAu) : xMh rs (some (.ret, ⟨F, H⟩)) = xPC H (xC8 rs ⟨F, H⟩) := rfl
theorem xYM (rs : List ARes) : xMh rs none = none := rfl
theorem xZY (rs : List ARes) {c : Prop} [Decidable c] (x y : Option (AExit × St)) : xMh rs (if c then x else y) = if c then xMh rs x else xMh rs y := by split <;> rfl
def xCL : Nat → List AV
  | 0 => []
  | n + 1 => .tup [] :: xCL n
theorem xRg : ∀ n, List.replicate n (AV.tup []) = xCL n
  | 0 => rfl
  | n + 1 => by rw [List.replicate_succ, xRg n]; rfl
theorem xAU (n : Nat) (code : ACode) (rs : List ARes) (args : List AV) : xBN R ⟨n, code, rs⟩ args H = xMh rs (run R code ⟨args ++ xCL (n - args.length), H⟩) := by
  rw [← xRg]
  simp only [xBN, xMh, xMS, xPC]
  cases h : run R code ⟨args ++ List.replicate (n - args.length) (.tup []), H⟩ with
  | none => rfl
  | some r =>
    obtain ⟨e, s⟩ := r
    cases e with
    | exit i => rfl
    | _ => simp only; cases xC8 rs s <;> rfl
def xIz : Option (AV × xAu) → Option AV
  | some (r, H') => frz xBL H' r
  | none => none
theorem xAQ (r : AV) (H' : xAu) : xIz (some (r, H')) = frz xBL H' r := rfl
theorem xWI : xIz none = none := rfl
theorem xYN {c : Prop} [Decidable c] (x y : Option (AV × xAu)) : xIz (if c then x else y) = if c then xIz x else xIz y := by split <;> rfl
theorem xA7 (fn : AFunc) (args : List AV) : xBw R fn args = xIz (xBN R fn args []) := by
  simp only [xBw, xIz]
  cases xBN R fn args [] <;> rfl
def xWJ (g : Bool) : Option (List AV) → Option AV
  | some cs => mkv g cs
  | none => none
theorem xDm (g : Bool) (cs : List AV) : xWJ g (some cs) = mkv g cs := rfl
theorem xA2 (t : Nat) : xR1 ⟨F, H⟩ (.tmp t) = some (F.getD t .any) := rfl
theorem xEh (t : Nat) (g : Bool) (n : Nat) : xR1 ⟨F, H⟩ (.cell t g n) = xWJ g (rd H (F.getD t .any) n) := by
  simp only [xR1, xWJ]
  cases rd H (F.getD t .any) n <;> rfl
theorem xRh : xC8 [] s = some (.tup []) := rfl
theorem xAR (r : ARes) : xC8 [r] s = xR1 s r := rfl
def yCX (s : St) (rs : List ARes) : Option AV → Option (List AV)
  | some v => (xP0 s rs).map (v :: ·)
  | none => none
theorem xDM (rs : List ARes) (v : AV) : yCX s rs (some v) = (xP0 s rs).map (v :: ·) := rfl
theorem xEi : xP0 s [] = some [] := rfl
theorem xDN (r : ARes) (rs : List ARes) : xP0 s (r :: rs) = yCX s rs (xR1 s r) := by
  simp only [xP0, yCX]
  cases xR1 s r <;> rfl
theorem xDO (r r' : ARes) (rs : List ARes) : xC8 (r :: r' :: rs) s = (xP0 s (r :: r' :: rs)).map .tup := rfl

def xGz (F : List AV) (l : Nat) : Option (AV × xAu) → Option (AExit × St)
  | some (_, H') => match H'[l]? with
    | some (.loop st pend _ _ _ _) => if st = 1 then none else some ((match pend with | none => .normal | some e => e), ⟨F, H'.set l .dead⟩)
    | _ => none
  | none => none
def xRi (R : Rec) (F : List AV) (H : xAu) (ps : List Nat) (asg body : ACode) : AV → Option (AExit × St)
  | .func g caps => xGz F H.length (R.icall (.func g caps) [.yield H.length] (H ++ [.loop 0 none F ps asg body]))
  | _ => none
theorem xZZ (f : Arg) (ps : List Nat) (asg body : ACode) (F : List AV) (H : xAu) : run R (.range f ps asg body) ⟨F, H⟩ = xRi R F H ps asg body (opv F f) := by
  simp only [run]
  cases opv F f with
  | func g caps =>
    simp only [xRi, xGz]
    cases R.icall (.func g caps) [.yield H.length] (H ++ [.loop 0 none F ps asg body]) with
    | none => rfl
    | some r =>
      obtain ⟨v, H'⟩ := r
      simp only
      cases H'[H.length]? with
      | none => rfl
      | some b => cases b <;> rfl
  | _ => rfl
theorem xWK (ps : List Nat) (asg body : ACode) (g : Nat) (caps : List AV) : xRi R F H ps asg body (.func g caps) = xGz F H.length (R.icall (.func g caps) [.yield H.length] (H ++ [.loop 0 none F ps asg body])) := rfl

def xGA (l : Nat) (e : AExit) (H : xAu) : Option Blk → Option (AV × xAu)
  | some (.loop 1 _ F ps asg body) => some (match e with
    | .normal => (.bool true, H.set l (.loop 0 none F ps asg body))
    | e => (.bool false, H.set l (.loop 2 (some e) F ps asg body)))
  | _ => none
def xEb (l : Nat) : Option (AExit × St) → Option (AV × xAu)
  | some (e, s) => xGA l e s.H s.H[l]?
  | none => none
def xHO (R : Rec) (l : Nat) (body0 : ACode) (s : St) : Option Blk → Option (AV × xAu)
  | some (.loop 0 pend F ps asg body) => xEb l (run R body0 ⟨s.F, s.H.set l (.loop 1 pend F ps asg body)⟩)
  | _ => none
def xHP (R : Rec) (l : Nat) (body0 : ACode) : Option (AExit × St) → Option (AV × xAu)
  | some (.normal, s) => xHO R l body0 s s.H[l]?
  | _ => none
def yEj (R : Rec) (l : Nat) (args : List AV) (H : xAu) : Option Blk → Option (AV × xAu)
  | some (.loop 0 _ F ps asg body) => if args.length = ps.length ∧ asg.noRange = true ∧ body.noRange = true then xHP R l body (run R asg ⟨(ps.zip args).foldl (fun F (p, v) => F.set p v) F, H⟩) else none
  | _ => none
theorem xZ0 (l : Nat) (args : List AV) (H : xAu) (asg body : ACode) (F : List AV) (ps : List Nat) (pend : Option AExit) (hH : H[l]? = some (.loop 0 pend F ps asg body)) (h1 : args.length = ps.length) (h2 : asg.noRange = true) (h3 : body.noRange = true) :
    xGQ R l args H = xHP R l body (run R asg ⟨(ps.zip args).foldl (fun F (p, v) => F.set p v) F, H⟩) := by
  unfold xGQ
  rw [hH]
  simp only
  rw [if_pos ⟨h1, h2, h3⟩]
  cases ha : run R asg ⟨(ps.zip args).foldl (fun F (p, v) => F.set p v) F, H⟩ with
  | none => rfl
  | some r =>
    obtain ⟨e, s1⟩ := r
    cases e with
    | normal =>
      simp only [xHP]
      cases hb : s1.H[l]? with
      | none => rfl
      | some b =>
        cases b with
        | loop st pend1 F1 ps1 asg1 body1 =>
          match st with
          | 0 =>
            simp only [xHO]
            cases hr : run R body ⟨s1.F, s1.H.set l (.loop 1 pend1 F1 ps1 asg1 body1)⟩ with
            | none => rfl
            | some r =>
              obtain ⟨e, s2⟩ := r
              simp only [xEb]
              cases hc : s2.H[l]? with
              | none => rfl
              | some b =>
                cases b with
                | loop st2 pend2 F2 ps2 asg2 body2 =>
                  match st2 with
                  | 0 => rfl
                  | 1 => rfl
                  | _ + 2 => rfl
                | _ => rfl
          | _ + 1 => rfl
        | _ => rfl
    | _ => rfl
theorem xRj (l : Nat) (body0 : ACode) (F : List AV) (H : xAu) : xHP R l body0 (some (.normal, ⟨F, H⟩)) = xHO R l body0 ⟨F, H⟩ H[l]? := rfl
theorem xTI (l : Nat) (body0 : ACode) (F : List AV) (H : xAu) (pend : Option AExit) (F1 : List AV) (ps : List Nat) (asg body : ACode) : xHO R l body0 ⟨F, H⟩ (some (.loop 0 pend F1 ps asg body)) = xEb l (run R body0 ⟨F, H.set l (.loop 1 pend F1 ps asg body)⟩) := rfl
theorem xS6 (l : Nat) (e : AExit) (F : List AV) (H : xAu) : xEb l (some (e, ⟨F, H⟩)) = xGA l e H H[l]? := rfl
theorem xTJ (l : Nat) {c : Prop} [Decidable c] (x y : Option (AExit × St)) : xEb l (if c then x else y) = if c then xEb l x else xEb l y := by split <;> rfl
theorem xRk (l : Nat) (H : xAu) (pend : Option AExit) (F : List AV) (ps : List Nat) (asg body : ACode) : xGA l .normal H (some (.loop 1 pend F ps asg body)) = some (.bool true, H.set l (.loop 0 none F ps asg body)) := rfl
theorem xTK (l i : Nat) (H : xAu) (pend : Option AExit) (F : List AV) (ps : List Nat) (asg body : ACode) : xGA l (.exit i) H (some (.loop 1 pend F ps asg body)) = some (.bool false, H.set l (.loop 2 (some (.exit i)) F ps asg body)) := rfl
theorem xVA (l : Nat) (H : xAu) (pend : Option AExit) (F : List AV) (ps : List Nat) (asg body : ACode) : xGA l .ret H (some (.loop 1 pend F ps asg body)) = some (.bool false, H.set l (.loop 2 (some .ret) F ps asg body)) := rfl
def xHQ (F : List AV) (l : Nat) (H : xAu) : Option Blk → Option (AExit × St)
  | some (.loop st pend _ _ _ _) => if st = 1 then none else some ((match pend with | none => .normal | some e => e), ⟨F, H.set l .dead⟩)
  | _ => none
theorem xTL (l : Nat) (v : AV) (H : xAu) : xGz F l (some (v, H)) = xHQ F l H H[l]? := by
  simp only [xGz, xHQ]
theorem xYO (l : Nat) (H : xAu) (F1 : List AV) (ps : List Nat) (asg body : ACode) : xHQ F l H (some (.loop 0 none F1 ps asg body)) = some (.normal, ⟨F, H.set l .dead⟩) := rfl
theorem xYP (l : Nat) (H : xAu) (e : AExit) (F1 : List AV) (ps : List Nat) (asg body : ACode) : xHQ F l H (some (.loop 2 (some e) F1 ps asg body)) = some (e, ⟨F, H.set l .dead⟩) := rfl
end
section
variable {R : Rec} {F : List AV} {H : xAu} {s : St}
def xRl : Option (AV × xAu) → Option (AV × List Blk)
  | some (r, H') => (xEs H' r).map fun (v, B) => (v, B.map (·.2))
  | none => none
theorem xZ1 (f : Nat) (args : List AV) : xFc R f args = xRl (R.icall (.func f []) args []) := by
  unfold xFc xRl
  cases R.icall (.func f []) args [] <;> rfl
theorem xWL (r : AV) (H' : xAu) : xRl (some (r, H')) = (xEs H' r).map fun (v, B) => (v, B.map (·.2)) := rfl
def ocK (H : xAu) (ids : List Nat) : Option (AV × List Blk) → Option (AV × xAu)
  | some (v, B) => some (xEr H.length v, xDj H ids ++ B)
  | none => none
def xRm (R : Rec) (f : Nat) (H : xAu) (ids : List Nat) : Option (List AV) → Option (AV × xAu)
  | some args' => ocK H ids (xFc R f args')
  | none => none
theorem yBM (f : Nat) (args : List Arg) : xAm R F H (.ocall f args) = xRm R f H ((args.map (opv F)).flatMap (bor xBL H)) ((args.map (opv F)).mapM (frz xBL H)) := by
  simp only [xAm, xRm]
  cases (args.map (opv F)).mapM (frz xBL H) with
  | none => rfl
  | some args' =>
    simp only [ocK]
    cases xFc R f args' <;> rfl
theorem xWM (f : Nat) (ids : List Nat) (args' : List AV) : xRm R f H ids (some args') = ocK H ids (xFc R f args') := rfl
theorem yBN (ids : List Nat) (v : AV) (B : List Blk) : ocK H ids (some (v, B)) = some (xEr H.length v, xDj H ids ++ B) := rfl

def yBO (H : xAu) (ids : List Nat) : Option (AV × xAu) → Option (AV × xAu)
  | some (v, B) => some (xEr H.length v, xDj H ids ++ B.map (xKO H.length))
  | none => none
def xNq (R : Rec) (f : Nat) (H : xAu) (ids : List Nat) : Option (List AV) → Option (AV × xAu)
  | some args' => yBO H ids (xFd R f args')
  | none => none
theorem xZ2 (f : Nat) (args : List Arg) : xAm R F H (.ocallw f args) = xNq R f H ((args.map (opv F)).flatMap (bor xBL H)) ((args.map (opv F)).mapM (frz xBL H)) := by
  simp only [xAm, xNq]
  cases (args.map (opv F)).mapM (frz xBL H) with
  | none => rfl
  | some args' =>
    simp only [yBO]
    cases xFd R f args' <;> rfl
theorem xVB (f : Nat) (ids : List Nat) (args' : List AV) : xNq R f H ids (some args') = yBO H ids (xFd R f args') := rfl
theorem xZ3 (ids : List Nat) (v : AV) (B : xAu) : yBO H ids (some (v, B)) = some (xEr H.length v, xDj H ids ++ B.map (xKO H.length)) := rfl
theorem xZ4 {f : Nat} {args : List AV} {v : AV} {B : xAu} (h : R.icall (.func f []) args [] = some (v, B)) (h1 : xQr v = true) (h2 : B.all yC7 = true) : xFd R f args = some (v, B) := by
  unfold xFd
  rw [h]
  exact if_pos ⟨h1, h2⟩

def t1B (z : Bool) (id off n es : Nat) (B : List (Nat × Blk)) : Option Blk → Option (AV × List (Nat × Blk))
  | some (.cells false z' cs) => if cs.all xCB = true then some (.own z B.length off n es, B ++ [(id, .cells false z' cs)]) else none
  | _ => none
def t1I (z : Bool) (id off n es : Nat) (B : List (Nat × Blk)) (b : Option Blk) : Option Nat → Option (AV × List (Nat × Blk))
  | some k => some (.own z k off n es, B)
  | none => t1B z id off n es B b
theorem xZ5 (H : xAu) (z : Bool) (id off n es : Nat) (B : List (Nat × Blk)) : xF3 H (.own z id off n es) B = t1I z id off n es B H[id]? (B.findIdx? (fun p => p.1 == id)) := by
  simp only [xF3, t1I]
  cases B.findIdx? (fun p => p.1 == id) with
  | some k => rfl
  | none =>
    simp only [t1B]
    cases H[id]? with
    | none => rfl
    | some b => cases b with
      | cells fz z' cs => cases fz <;> rfl
      | _ => rfl
theorem yCY (z : Bool) (id off n es : Nat) (B : List (Nat × Blk)) (b : Option Blk) (k : Nat) : t1I z id off n es B b (some k) = some (.own z k off n es, B) := rfl
theorem yCZ (z : Bool) (id off n es : Nat) (B : List (Nat × Blk)) (z' : Bool) (cs : List AV) : t1I z id off n es B (some (.cells false z' cs)) none = if cs.all xCB = true then some (.own z B.length off n es, B ++ [(id, .cells false z' cs)]) else none := rfl
theorem xZ6 (H : xAu) (k : IntKind) (n : Int) (B : List (Nat × Blk)) : xF3 H (.int k n) B = some (.int k n, B) := rfl
theorem xYQ (H : xAu) (b : Bool) (B : List (Nat × Blk)) : xF3 H (.bool b) B = some (.bool b, B) := rfl
theorem yBP (H : xAu) (z : Bool) (n : Nat) (cs : List AV) (B : List (Nat × Blk)) : xF3 H (.sl z n cs) B = some (.sl z n cs, B) := rfl
theorem xZ7 (H : xAu) (b : ByteArray) (B : List (Nat × Blk)) : xF3 H (.str b) B = some (.str b, B) := rfl
def tkL (H : xAu) (vs : List AV) : Option (AV × List (Nat × Blk)) → Option (List AV × List (Nat × Blk))
  | some (v', B') => (xI0 H vs B').map fun (vs', B2) => (v' :: vs', B2)
  | none => none
theorem xZ8 (H : xAu) (B : List (Nat × Blk)) : xI0 H [] B = some ([], B) := rfl
theorem xYR (H : xAu) (v : AV) (vs : List AV) (B : List (Nat × Blk)) : xI0 H (v :: vs) B = tkL H vs (xF3 H v B) := by
  simp only [xI0, tkL]
  cases xF3 H v B <;> rfl
theorem yBQ (H : xAu) (vs : List AV) (v' : AV) (B' : List (Nat × Blk)) : tkL H vs (some (v', B')) = (xI0 H vs B').map fun (vs', B2) => (v' :: vs', B2) := rfl
theorem xZ9 (H : xAu) (cs : List AV) (B : List (Nat × Blk)) : xGP H (.agg cs) B = if cs.all AV.isCell = true then (xI0 H cs B).map fun (cs', B') => (.agg cs', B') else none := rfl
theorem yAa (H : xAu) (z : Bool) (id off n es : Nat) (B : List (Nat × Blk)) : xGP H (.own z id off n es) B = xF3 H (.own z id off n es) B := rfl
theorem yAb (H : xAu) (k : IntKind) (n : Int) (B : List (Nat × Blk)) : xGP H (.int k n) B = some (.int k n, B) := rfl
theorem xYS (H : xAu) (b : Bool) (B : List (Nat × Blk)) : xGP H (.bool b) B = some (.bool b, B) := rfl
theorem yBR (H : xAu) (z : Bool) (n : Nat) (cs : List AV) (B : List (Nat × Blk)) : xGP H (.sl z n cs) B = some (.sl z n cs, B) := rfl
def yC0 (H : xAu) (vs : List AV) : Option (AV × List (Nat × Blk)) → Option (List AV × List (Nat × Blk))
  | some (v', B') => (xFF H vs B').map fun (vs', B2) => (v' :: vs', B2)
  | none => none
theorem xYT (H : xAu) (B : List (Nat × Blk)) : xFF H [] B = some ([], B) := rfl
theorem xWN (H : xAu) (v : AV) (vs : List AV) (B : List (Nat × Blk)) : xFF H (v :: vs) B = yC0 H vs (xGP H v B) := by
  simp only [xFF, yC0]
  cases xGP H v B <;> rfl
theorem yAc (H : xAu) (vs : List AV) (v' : AV) (B' : List (Nat × Blk)) : yC0 H vs (some (v', B')) = (xFF H vs B').map fun (vs', B2) => (v' :: vs', B2) := rfl
theorem xWO (H : xAu) (vs : List AV) : xEs H (.tup vs) = (xFF H vs []).map fun (vs', B) => (.tup vs', B) := rfl
theorem xWP (H : xAu) (cs : List AV) : xEs H (.agg cs) = xGP H (.agg cs) [] := rfl
theorem xWQ (H : xAu) (z : Bool) (id off n es : Nat) : xEs H (.own z id off n es) = xF3 H (.own z id off n es) [] := rfl
theorem xYU (H : xAu) (z : Bool) (n : Nat) (cs : List AV) : xEs H (.sl z n cs) = some (.sl z n cs, []) := rfl

theorem yAd {α : Type} (p : α → Bool) : ([] : List α).findIdx? p = none := rfl
theorem xYV {α : Type} (p : α → Bool) (a : α) (l : List α) : (a :: l).findIdx? p = if p a = true then some 0 else (l.findIdx? p).map (· + 1) := by
  rw [List.findIdx?_cons]

def xRn (R : Rec) (als : List (Nat × Nat)) (ls : List (Nat × Nat × Nat × Nat)) (m : Nat) (ops : List AOper) : Option (St × List Pr) → Option (AExit × St)
  | some (s, pl) => xD9 ls (xBK R (ops.drop m) (xCQ als pl s))
  | none => none
theorem yAe (als : List (Nat × Nat)) (ls : List (Nat × Nat × Nat × Nat)) (m : Nat) (ops : List AOper) : run R (.drawp als ls m ops) s = xRn R als ls m ops (xBS R (ops.take m) s) := by
  simp only [run, xRn]
  cases xBS R (ops.take m) s with
  | none => rfl
  | some r =>
    obtain ⟨s1, pl⟩ := r
    simp only [xD9]
    cases xBK R (ops.drop m) (xCQ als pl s1) <;> rfl
theorem xWR (als : List (Nat × Nat)) (ls : List (Nat × Nat × Nat × Nat)) (m : Nat) (ops : List AOper) (s : St) (pl : List Pr) : xRn R als ls m ops (some (s, pl)) = xD9 ls (xBK R (ops.drop m) (xCQ als pl s)) := rfl
theorem xFQ (pl : List Pr) (s : St) : xCQ [] pl s = xB4 pl s := rfl
def alK (als : List (Nat × Nat)) : St → St
  | ⟨F, H⟩ => ⟨xDa als F, H⟩
theorem xWS (p : Nat × Nat) (r : List (Nat × Nat)) (pl : List Pr) (s : St) : xCQ (p :: r) pl s = alK (p :: r) (xB4 pl s) := rfl
theorem yEk (als : List (Nat × Nat)) (F : List AV) (H : xAu) : alK als ⟨F, H⟩ = ⟨xDa als F, H⟩ := rfl
theorem xYW (F : List AV) : xDa [] F = F := rfl
theorem xWT (d q : Nat) (r : List (Nat × Nat)) (F : List AV) : xDa ((d, q) :: r) F = xDa r (F.set d (F.getD q .any)) := rfl
def xRo (e : Pr) : Option (St × List Pr) → Option (St × List Pr)
  | some (s, l) => some (s, e :: l)
  | none => none
theorem xFR (e : Pr) (s : St) (l : List Pr) : xRo e (some (s, l)) = some (s, e :: l) := rfl
def xRp (R : Rec) (rest : List AOper) (s : St) : Option Nat → Option (AV × List Blk) → Option (St × List Pr)
  | some t, some (v, B) => xRo (some (t, v, B)) (xBS R rest ⟨s.F.set t .any, s.H⟩)
  | _, _ => none
def xRq (R : Rec) (rest : List AOper) : Option St → Option (St × List Pr)
  | some s => xRo none (xBS R rest s)
  | none => none
theorem xEP : xBS R [] s = some (s, []) := rfl
theorem xEj (o : AOper) (rest : List AOper) : xBS R (o :: rest) s = if xBG o.op = true then xRp R rest s o.dst (xEt R s.F o.op) else xRq R rest (xB0 R o s) := by
  simp only [xBS]
  split
  · cases o.dst with
    | none => rfl
    | some t => cases xEt R s.F o.op with
      | none => rfl
      | some r =>
        obtain ⟨v, B⟩ := r
        simp only [xRp]
        cases xBS R rest ⟨s.F.set t .any, s.H⟩ <;> rfl
  · cases xB0 R o s with
    | none => rfl
    | some s1 =>
      simp only [xRq]
      cases xBS R rest s1 <;> rfl
theorem xWU (rest : List AOper) (t : Nat) (v : AV) (B : List Blk) : xRp R rest s (some t) (some (v, B)) = xRo (some (t, v, B)) (xBS R rest ⟨s.F.set t .any, s.H⟩) := rfl
theorem xEQ (rest : List AOper) (s : St) : xRq R rest (some s) = xRo none (xBS R rest s) := rfl
def xWV : Option (AV × xAu) → Option (AV × List Blk)
  | some (v, B) => if xQr v = true ∧ xFG B = true then some (v, B) else none
  | none => none
theorem yBS (op : AOp) : xEt R F op = if op.args.all (fun x => xJx (opv F x)) = true then xWV (xAm R F [] op) else none := by
  unfold xEt xWV
  split
  · cases xAm R F [] op <;> rfl
  · rfl
theorem xYX (v : AV) (B : xAu) : xWV (some (v, B)) = if xQr v = true ∧ xFG B = true then some (v, B) else none := rfl
theorem xVC (f : Nat) (as : List Arg) : xBG (.ocall f as) = true := rfl
theorem xYY (x : Arg) : xBG (.box x) = true := rfl
theorem xWW (z : List AV) (b : Nat) (x y : Arg) : xBG (.mkslice false z b x y) = true := rfl
theorem xWX (z : List AV) (b : Nat) (x y : Arg) : xBG (.mkslice true z b x y) = false := rfl
theorem xWY (z : List AV) (es n : Nat) (ps : List (Nat × Arg)) : xBG (.bslice false z es n ps) = true := rfl
theorem xWZ (z : List AV) (es n : Nat) (ps : List (Nat × Arg)) : xBG (.bslice true z es n ps) = false := rfl
theorem xW0 (es b : Nat) (x y : Arg) : xBG (.append false es b x y) = true := rfl
theorem xW1 (es b : Nat) (x y : Arg) : xBG (.append true es b x y) = false := rfl
theorem xW2 (z : List AV) (b : Nat) (x y : Arg) : xBG (.appendz z b x y) = true := rfl
theorem xJR (x : Arg) : xBG (.mov x) = false := rfl
theorem xW3 (x y z : Arg) : xBG (.pick x y z) = false := rfl
theorem xVD (z : List AV) (ps : List (Nat × Nat × Arg)) : xBG (.build z ps) = false := rfl
theorem xER (g : Bool) (n : Nat) (x : Arg) : xBG (.load g n x) = false := rfl
theorem xTM (x : Arg) : xBG (.nilchk x) = false := rfl
theorem xYZ (op : BinOp) (x y : Arg) : xBG (.bin op x y) = false := rfl
theorem xY0 (g : Bool) (x y : Arg) : xBG (.beq g x y) = false := rfl
theorem xVE (g : Bool) (x : Arg) : xBG (.isnil g x) = false := rfl
theorem yAf (op : UnOp) (x : Arg) : xBG (.un op x) = false := rfl
theorem xW4 (k : IntKind) (x : Arg) : xBG (.conv k x) = false := rfl
theorem xTN (f : Nat) (as : List Arg) : xBG (.mkfunc f as) = false := rfl
theorem xVF (es : Nat) (x : Arg) (a b c : Option Arg) : xBG (.slice es x a b c) = false := rfl
theorem xHv (o : Nat) (x : Arg) : xBG (.faddr o x) = false := rfl
theorem xVG (g : Bool) (o n : Nat) (x : Arg) : xBG (.field g o n x) = false := rfl
theorem xHw (es : Nat) (x i : Arg) : xBG (.iaddr es x i) = false := rfl
theorem xY1 (i : Nat) (x : Arg) : xBG (.ext i x) = false := rfl
theorem xY2 (x : Arg) : xBG (.len x) = false := rfl
theorem xY3 (x : Arg) : xBG (.cap x) = false := rfl
theorem xY4 (g : Bool) (n : Nat) (x y : Arg) : xBG (.aeq g n x y) = false := rfl
theorem xW5 (f : Nat) (as : List Arg) : xBG (.call f as) = false := rfl
theorem xVH (f : Arg) (as : List Arg) : xBG (.fcall f as) = false := rfl
theorem xW6 (x y : Arg) : xBG (.maxi x y) = false := rfl
theorem xW7 (x y : Arg) : xBG (.mini x y) = false := rfl
theorem xW8 : xFG [] = true := rfl
theorem xVI (z : Bool) (cs : List AV) (B : List Blk) : xFG (.cells false z cs :: B) = (cs.all xCB && xFG B) := rfl
theorem xKs {α : Type} {f : α → AV} (h : ∀ a, xCB (f a) = true) (l : List α) : (l.map f).all xCB = true := by
  simp [List.all_eq_true, h]
end

section
variable {R : Rec} {F : List AV} {H : xAu}
def yBT (g : Bool) (es len : Nat) : AV → AV → Option AV
  | .agg cs, .int _ i => if 0 ≤ i ∧ i.toNat < len ∧ i.toNat * es + es ≤ cs.length then mkv g ((cs.drop (i.toNat * es)).take es) else none
  | _, _ => none
theorem xCp {g : Bool} {es len : Nat} {cs : List AV} {k : IntKind} {i : Int} (h0 : 0 ≤ i) (h : i < len) (h2 : i.toNat * es + es ≤ cs.length) : yBT g es len (.agg cs) (.int k i) = mkv g ((cs.drop (i.toNat * es)).take es) := if_pos ⟨h0, by omega, h2⟩
theorem xDs (g : Bool) (es len : Nat) (x i : Arg) : xAm R F H (.idx g es len x i) = xDY H (yBT g es len (opv F x) (opv F i)) := by
  simp only [xAm]
  cases opv F x with
  | agg cs => cases opv F i with
    | int k n =>
      by_cases h0 : 0 ≤ n
      · have e : xCJ (.int k n) = some n.toNat := by simp [xCJ, h0]
        simp only [e, yBT, h0, true_and]
        by_cases c : n.toNat < len ∧ n.toNat * es + es ≤ cs.length
        · rw [if_pos c, if_pos c]
          cases mkv g ((cs.drop (n.toNat * es)).take es) <;> rfl
        · rw [if_neg c, if_neg c]; rfl
      · have e : xCJ (.int k n) = none := by simp [xCJ, h0]
        simp only [e, yBT, h0, false_and, if_false, xDY]
    | _ => rfl
  | _ => rfl
def xIA (es len : Nat) : AV → AV → Option AV
  | .ptr id off, .int _ i => if 0 ≤ i ∧ i.toNat < len then some (.ptr id (off + i.toNat * es)) else none
  | .vptr cs off, .int _ i => if 0 ≤ i ∧ i.toNat < len then some (.vptr cs (off + i.toNat * es)) else none
  | _, _ => none
theorem xJS {es len id off : Nat} {k : IntKind} {i : Int} (h0 : 0 ≤ i) (h : i < len) : xIA es len (.ptr id off) (.int k i) = some (.ptr id (off + i.toNat * es)) := if_pos ⟨h0, by omega⟩
theorem xW9 {es len off : Nat} {cs : List AV} {k : IntKind} {i : Int} (h0 : 0 ≤ i) (h : i < len) : xIA es len (.vptr cs off) (.int k i) = some (.vptr cs (off + i.toNat * es)) := if_pos ⟨h0, by omega⟩
theorem xOX (es len : Nat) (x i : Arg) : xAm R F H (.arrat es len x i) = xDY H (xIA es len (opv F x) (opv F i)) := by
  simp only [xAm]
  cases opv F x with
  | ptr id off => cases opv F i with
    | int k n =>
      by_cases h0 : 0 ≤ n
      · have e : xCJ (.int k n) = some n.toNat := by simp [xCJ, h0]
        simp only [e, xIA, h0, true_and]
        by_cases c : n.toNat < len
        · rw [if_pos c, if_pos c]; rfl
        · rw [if_neg c, if_neg c]; rfl
      · have e : xCJ (.int k n) = none := by simp [xCJ, h0]
        simp only [e, xIA, h0, false_and, if_false, xDY]
    | _ => rfl
  | vptr cs off => cases opv F i with
    | int k n =>
      by_cases h0 : 0 ≤ n
      · have e : xCJ (.int k n) = some n.toNat := by simp [xCJ, h0]
        simp only [e, xIA, h0, true_and]
        by_cases c : n.toNat < len
        · rw [if_pos c, if_pos c]; rfl
        · rw [if_neg c, if_neg c]; rfl
      · have e : xCJ (.int k n) = none := by simp [xCJ, h0]
        simp only [e, xIA, h0, false_and, if_false, xDY]
    | _ => rfl
  | _ => rfl
def xTO (es len : Nat) : Option (List AV) → AV → Option AV
  | some cs, .int _ i => if 0 ≤ i ∧ i.toNat < len then some (.vptr cs (i.toNat * es)) else none
  | _, _ => none
theorem xY5 {es len : Nat} {cs : List AV} {k : IntKind} {i : Int} (h0 : 0 ≤ i) (h : i < len) : xTO es len (some cs) (.int k i) = some (.vptr cs (i.toNat * es)) := if_pos ⟨h0, by omega⟩
theorem yC1 (b es len : Nat) (i : Arg) : xAm R F H (.garr b es len i) = xDY H (xTO es len (xPX b) (opv F i)) := by
  simp only [xAm]
  cases xPX b with
  | none => rfl
  | some cs => cases opv F i with
    | int k n =>
      by_cases h0 : 0 ≤ n
      · have e : xCJ (.int k n) = some n.toNat := by simp [xCJ, h0]
        simp only [e, xTO, h0, true_and]
        by_cases c : n.toNat < len
        · rw [if_pos c, if_pos c]; rfl
        · rw [if_neg c, if_neg c]; rfl
      · have e : xCJ (.int k n) = none := by simp [xCJ, h0]
        simp only [e, xTO, h0, false_and, if_false, xDY]
    | _ => rfl
def yAg : AV → Option AV
  | .str s => some (.int .i64 s.size)
  | _ => none
theorem yAh (s : ByteArray) : yAg (.str s) = some (.int .i64 s.size) := rfl
theorem yC2 (x : Arg) : xAm R F H (.slen x) = xDY H (yAg (opv F x)) := by
  simp only [xAm]
  cases opv F x <;> rfl
theorem yEl (g : Bool) (es len : Nat) (x i : Arg) : xBZ R F H (.idx g es len x i) = xE8 H (xAm R F H (.idx g es len x i)) := xDv _ rfl
theorem yBU (es len : Nat) (x i : Arg) : xBZ R F H (.arrat es len x i) = xE8 H (xAm R F H (.arrat es len x i)) := xDv _ rfl
theorem yC3 (b es len : Nat) (i : Arg) : xBZ R F H (.garr b es len i) = xE8 H (xAm R F H (.garr b es len i)) := xDv _ rfl
theorem xRr (mx : Bool) (x : Arg) (xs : List Arg) : xAm R F H (.mm mx (x :: xs)) = xDY H (mmA mx (opv F x) (xs.map (opv F))) := by
  simp only [xAm, List.map_cons, xDY]
  cases mmA mx (opv F x) (xs.map (opv F)) <;> rfl
theorem xIB (mx : Bool) (k : IntKind) (a : Int) : mmA mx (.int k a) [] = some (.int k a) := rfl
theorem xIC (k k' : IntKind) (a b : Int) (r : List AV) : mmA false (.int k a) (.int k' b :: r) = mmA false (.int k (min a b)) r := by
  simp only [mmA, Bool.false_eq_true, if_false]
  congr 2; split <;> omega
theorem xKt (k k' : IntKind) (a b : Int) (r : List AV) : mmA true (.int k a) (.int k' b :: r) = mmA true (.int k (max a b)) r := by
  simp only [mmA, if_true]
  congr 2; split <;> omega
theorem yFl (mx : Bool) (xs : List Arg) : xBZ R F H (.mm mx xs) = xE8 H (xAm R F H (.mm mx xs)) := xDv _ rfl
theorem yAi (mx : Bool) (xs : List Arg) : xBG (.mm mx xs) = false := rfl
theorem yC4 (x : Arg) : xBZ R F H (.slen x) = xE8 H (xAm R F H (.slen x)) := xDv _ rfl
end
end Go.Abs
