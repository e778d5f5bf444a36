/- The interpreter's equations in the form that simp walks by: one equation for each construct,told apart by what has been computed already. -/
import Derived.Test.YtbfnjdhafgnlnaaDoorAbsLim
namespace Go.Abs
set_option linter.unusedVariables false
set_option linter.unusedSimpArgs false
theorem xKR : ∀ (scr : List Nat) (F : List AV) (i : Nat),(xA6 scr F)[i]? = if i ∈ scr then (F[i]?).map (fun _ => AV.any) else F[i]?
 | [],F,i => by simp [xA6]
 | j :: scr,F,i => by
  have := xKR scr (F.set j .any) i
  simp only [xA6,List.foldl_cons] at this ⊢
  rw [this]
  by_cases h : i = j
  ·subst h
   simp only [List.getElem?_set_self',List.mem_cons,true_or,if_true]
   cases F[i]? <;> simp
  ·have h' : ¬ j = i := fun e => h e.symm
   simp [List.getElem?_set,h,h']
theorem xTC (scr : List Nat) (F : List AV) : xA6 scr (xA6 scr F) = xA6 scr F := by
 apply List.ext_getElem?
 intro i
 rw [xKR,xKR]
 split
 ·cases F[i]? <;> rfl
 ·rfl
section
variable {prog : Nat → Option AFunc}
theorem xXy (prog : Nat → Option AFunc) (n : Nat) : Tends (fix prog n) (fun _ => lim prog) :=
 ⟨fun f a v h => .all fun _ => xJQ ((xHD prog n).pcall f a v h),fun f a H v h => .all fun _ => xJQ ((xHD prog n).icall f a H v h),fun scr b s v h => .all fun _ => xJQ ((xHD prog n).loop scr b s v h)⟩
theorem Ev.const {p : Prop} (h : Ev fun _ => p) : p := let ⟨n,hn⟩ := h; hn n (Nat.le_refl n)
theorem xXz {α : Type} {a b : Option α} (h1 : ∀ v,a = some v → b = some v) (h2 : ∀ v,b = some v → a = some v) : a = b := by
 cases a with
 | some v => exact (h1 v rfl).symm
 | none =>
  cases b with
  | none => rfl
  | some v => exact h2 v rfl
theorem xAP {f : Nat} {fn : AFunc} (hf : prog f = some fn) (args : List AV) : (lim prog).pcall f args = xBg (lim prog) fn args := by
 refine xXz (fun v h => ?_) (fun v h => xWc hf h)
 obtain ⟨n,hn⟩ := xDV (p := fun m => (fix prog m).pcall f args) h
 have h1 : (xH5 prog (fix prog n)).pcall f args = some v := hn (n + 1) (by omega)
 have h2 := (xCp (xXy prog n) prog).pcall f args v h1 |>.const
 simp only [xH5,hf] at h2
 exact h2
theorem xMa (f : AV) (args : List AV) (H : Heap) : (lim prog).icall f args H = xH4 prog (lim prog) f args H := by
 refine xXz (fun v h => ?_) (fun v h => xWd h)
 obtain ⟨n,hn⟩ := xDV (p := fun m => (fix prog m).icall f args H) h
 have h1 : (xH5 prog (fix prog n)).icall f args H = some v := hn (n + 1) (by omega)
 exact (xCp (xXy prog n) prog).icall f args H v h1 |>.const
theorem xJW (scr : List Nat) (b : ACode) (s : St) : (lim prog).loop scr b s = xNW (lim prog) scr b s := by
 refine xXz (fun v h => ?_) (fun v h => xYL h)
 obtain ⟨n,hn⟩ := xDV (p := fun m => (fix prog m).loop scr b s) h
 have h1 : (xH5 prog (fix prog n)).loop scr b s = some v := hn (n + 1) (by omega)
 exact (xCp (xXy prog n) prog).loop scr b s v h1 |>.const
theorem xAU {f : Nat} {fn : AFunc} (hf : prog f = some fn) (caps args : List AV) (H : Heap) : (lim prog).icall (.func f caps) args H = xBG (lim prog) fn (args ++ caps) H := by
 rw [xMa]
 simp only [xH4,hf]
theorem xMb (l : Nat) (args : List AV) (H : Heap) : (lim prog).icall (.yield l) args H = xKb (lim prog) l args H := by
 rw [xMa]
 rfl
theorem xJM (scr : List Nat) (b : ACode) (F : List AV) (H : Heap) : (lim prog).loop scr b ⟨F,H⟩ = (lim prog).loop scr b ⟨xA6 scr F,H⟩ := by
 rw [xJW,xJW]
 unfold xNW
 simp only [xTC]
def xBv (R : Rec) (scr : List Nat) (b : ACode) : Option (AExit × St) → Option (AExit × St)
 | some (.normal,s) => R.loop scr b ⟨xA6 scr s.F,s.H⟩
 | some (e,s) => some (e,⟨xA6 scr s.F,s.H⟩)
 | none => none
theorem xAN (scr : List Nat) (b : ACode) (F : List AV) (H : Heap) (h : xA6 scr F = F) : (lim prog).loop scr b ⟨F,H⟩ = xBv (lim prog) scr b (run (lim prog) b ⟨F,H⟩) := by
 rw [xJW]
 unfold xNW xBv
 simp only [h]
 split
 ·rename_i s' hs
  rw [hs]
  exact xJM scr b s'.F s'.H
 ·rename_i e s' hne hs
  rw [hs]
  cases e with
  | normal => exact (hne rfl).elim
  | exit i => rfl
  | ret => rfl
 ·rename_i hs
  rw [hs]
theorem xIu (scr : List Nat) (b : ACode) (F : List AV) (H : Heap) : run (lim prog) (.loop scr b) ⟨F,H⟩ = (lim prog).loop scr b ⟨xA6 scr F,H⟩ := xJM scr b F H
end
section
variable {R : Rec} {F : List AV} {H : Heap} {s : St}
def xZO (R : Rec) (b : ACode) : Option (AExit × St) → Option (AExit × St)
 | some (.normal,s) => run R b s
 | r => r
theorem xKS (a b : ACode) : run R (.seq a b) s = xZO R b (run R a s) := by
 simp only [run,xZO]
 split <;> simp_all
theorem xC4 (b : ACode) (s : St) : xZO R b (some (.normal,s)) = run R b s := rfl
theorem xF1 (b : ACode) (i : Nat) (s : St) : xZO R b (some (.exit i,s)) = some (.exit i,s) := rfl
theorem xIv (b : ACode) (s : St) : xZO R b (some (.ret,s)) = some (.ret,s) := rfl
theorem xF2 (b : ACode) : xZO R b none = none := rfl
theorem xIw (b : ACode) {c : Prop} [Decidable c] (x y : Option (AExit × St)) : xZO R b (if c then x else y) = if c then xZO R b x else xZO R b y := by split <;> rfl
def yBq (R : Rec) (a b : ACode) (s : St) : AV → Option (AExit × St)
 | .bool t => if t = true then run R a s else run R b s
 | _ => none
theorem xIx (c : Arg) (a b : ACode) (F : List AV) (H : Heap) : run R (.cond c a b) ⟨F,H⟩ = yBq R a b ⟨F,H⟩ (opv F c) := by
 simp only [run,yBq]
 split <;> simp_all
theorem xEm (a b : ACode) (t : Bool) : yBq R a b s (.bool t) = if t = true then run R a s else run R b s := rfl
def xKl (id : Nat) : Option (AExit × St) → Option (AExit × St)
 | some (.exit i,s) => if i = id then some (.normal,s) else some (.exit i,s)
 | r => r
theorem xF3 (id : Nat) (b : ACode) : run R (.block id b) s = xKl id (run R b s) := by
 simp only [run,xKl]
 split <;> simp_all
theorem xC5 (id i : Nat) (s : St) : xKl id (some (.exit i,s)) = if i = id then some (.normal,s) else some (.exit i,s) := rfl
theorem xCa (id : Nat) (s : St) : xKl id (some (.normal,s)) = some (.normal,s) := rfl
theorem xEn (id : Nat) (s : St) : xKl id (some (.ret,s)) = some (.ret,s) := rfl
theorem xC6 (id : Nat) : xKl id none = none := rfl
theorem xEo (id : Nat) {c : Prop} [Decidable c] (x y : Option (AExit × St)) : xKl id (if c then x else y) = if c then xKl id x else xKl id y := by split <;> rfl
theorem xCw (scr : List Nat) (b : ACode) (F : List AV) (H : Heap) : xBv R scr b (some (.normal,⟨F,H⟩)) = R.loop scr b ⟨xA6 scr F,H⟩ := rfl
theorem xEp (scr : List Nat) (b : ACode) (i : Nat) (F : List AV) (H : Heap) : xBv R scr b (some (.exit i,⟨F,H⟩)) = some (.exit i,⟨xA6 scr F,H⟩) := rfl
theorem xF4 (scr : List Nat) (b : ACode) (F : List AV) (H : Heap) : xBv R scr b (some (.ret,⟨F,H⟩)) = some (.ret,⟨xA6 scr F,H⟩) := rfl
theorem xF5 (scr : List Nat) (b : ACode) {c : Prop} [Decidable c] (x y : Option (AExit × St)) : xBv R scr b (if c then x else y) = if c then xBv R scr b x else xBv R scr b y := by split <;> rfl
def xYJ : Option St → Option (AExit × St)
 | some s => some (.normal,s)
 | none => none
theorem xF6 (s : St) : xYJ (some s) = some (.normal,s) := rfl
theorem xF7 : xYJ none = none := rfl
theorem xIy {c : Prop} [Decidable c] (x y : Option St) : xYJ (if c then x else y) = if c then xYJ x else xYJ y := by split <;> rfl
theorem xEq (ops : List AOper) : run R (.region ops) s = xYJ (xA8 R ops s) := by
 simp only [run,xYJ]
 cases xA8 R ops s <;> rfl
theorem xIz : run R .skip s = some (.normal,s) := rfl
theorem xF8 : run R .label s = some (.normal,s) := rfl
theorem xIA (i : Nat) : run R (.exit i) s = some (.exit i,s) := rfl
theorem xKT : run R .ret s = some (.ret,s) := rfl
theorem xF9 (b : ACode) : run R (.scope b) s = run R b s := rfl
theorem xGa : run R .stuck s = none := rfl
def yBr (R : Rec) (rest : List AOper) : Option St → Option St
 | some s => xA8 R rest s
 | none => none
theorem xEr : xA8 R [] s = some s := rfl
theorem xC7 (o : AOper) (rest : List AOper) : xA8 R (o :: rest) s = yBr R rest (xBr R o s) := by
 simp only [xA8,yBr]
 cases xBr R o s <;> rfl
theorem xGb (rest : List AOper) (s : St) : yBr R rest (some s) = xA8 R rest s := rfl
theorem xGc (rest : List AOper) : yBr R rest none = none := rfl
theorem xIB (rest : List AOper) {c : Prop} [Decidable c] (x y : Option St) : yBr R rest (if c then x else y) = if c then yBr R rest x else yBr R rest y := by split <;> rfl
def xXA (F : List AV) (d : Option Nat) : Option (AV × Heap) → Option St
 | some (v,H) => some ⟨xDX F d v,H⟩
 | none => none
theorem xKU (d : Nat) (v : AV) : xXA F (some d) (some (v,H)) = some ⟨F.set d v,H⟩ := rfl
theorem xKV (v : AV) : xXA F none (some (v,H)) = some ⟨F,H⟩ := rfl
theorem xGd (d : Option Nat) : xXA F d none = none := rfl
theorem xIC (d : Option Nat) {c : Prop} [Decidable c] (x y : Option (AV × Heap)) : xXA F d (if c then x else y) = if c then xXA F d x else xXA F d y := by split <;> rfl
theorem xGe (d : Option Nat) (op : AOp) : xBr R ⟨d,op,none⟩ ⟨F,H⟩ = xXA F d (xAh R F H op) := by
 simp only [xBr,xCq,xXA]
 cases xAh R F H op <;> rfl
def xUO (R : Rec) (d : Option Nat) (op : AOp) (w : Bool) (F : List AV) (H : Heap) : AV → Option St
 | .bool b => if b = w then xXA F d (xAh R F H op) else some ⟨xDX F d (.tup []),H⟩
 | .any => none
 | _ => some ⟨xDX F d (.tup []),H⟩
theorem xEs (d : Option Nat) (op : AOp) (t : Nat) (w : Bool) : xBr R ⟨d,op,some (t,w)⟩ ⟨F,H⟩ = xUO R d op w F H (F.getD t .any) := by
 simp only [xBr,xCq,xUO]
 cases F.getD t .any with
 | bool b =>
  cases b <;> cases w <;> simp [xXA] <;> cases xAh R F H op <;> rfl
 | _ => rfl
theorem xC8 (d : Option Nat) (op : AOp) (w b : Bool) : xUO R d op w F H (.bool b) = if b = w then xXA F d (xAh R F H op) else some ⟨xDX F d (.tup []),H⟩ := rfl
theorem xEt (d : Option Nat) (op : AOp) (w : Bool) (vs : List AV) : xUO R d op w F H (.tup vs) = some ⟨xDX F d (.tup []),H⟩ := rfl
theorem xKW (d : Nat) (v : AV) : xDX F (some d) v = F.set d v := rfl
theorem xKX (v : AV) : xDX F none v = F := rfl
def xTD (R : Rec) (m : Nat) (ops : List AOper) : Option St → Option (AExit × St)
 | some s => xYJ (xA8 R (ops.drop m) (adopt (ops.take m) s))
 | none => none
theorem xID (m : Nat) (ops : List AOper) : run R (.draw m ops) s = xTD R m ops (xBT R (ops.take m) s) := by
 simp only [run,xTD]
 cases xBT R (ops.take m) s with
 | none => rfl
 | some s1 =>
  simp only [xYJ]
  cases xA8 R (ops.drop m) (adopt (ops.take m) s1) <;> rfl
theorem xEu (m : Nat) (ops : List AOper) (s : St) : xTD R m ops (some s) = xYJ (xA8 R (ops.drop m) (adopt (ops.take m) s)) := rfl
theorem xEv (m : Nat) (ops : List AOper) : xTD R m ops none = none := rfl
theorem xGf (m : Nat) (ops : List AOper) {c : Prop} [Decidable c] (x y : Option St) : xTD R m ops (if c then x else y) = if c then xTD R m ops x else xTD R m ops y := by split <;> rfl
def xH9 (ls : List (Nat × Nat × Nat × Nat)) : Option St → Option (AExit × St)
 | some s => if ls.all (apart s.F) = true then some (.normal,s) else none
 | none => none
def xNu (R : Rec) (ls : List (Nat × Nat × Nat × Nat)) (m : Nat) (ops : List AOper) : Option St → Option (AExit × St)
 | some s => xH9 ls (xA8 R (ops.drop m) (adopt (ops.take m) s))
 | none => none
theorem xGg (ls : List (Nat × Nat × Nat × Nat)) (m : Nat) (ops : List AOper) : run R (.drawl ls m ops) s = xNu R ls m ops (xBT R (ops.take m) s) := by
 simp only [run,xNu]
 cases xBT R (ops.take m) s with
 | none => rfl
 | some s1 =>
  simp only [xH9]
  cases xA8 R (ops.drop m) (adopt (ops.take m) s1) <;> rfl
theorem xC9 (ls : List (Nat × Nat × Nat × Nat)) (m : Nat) (ops : List AOper) (s : St) : xNu R ls m ops (some s) = xH9 ls (xA8 R (ops.drop m) (adopt (ops.take m) s)) := rfl
theorem xDa (ls : List (Nat × Nat × Nat × Nat)) (m : Nat) (ops : List AOper) : xNu R ls m ops none = none := rfl
theorem xEw (ls : List (Nat × Nat × Nat × Nat)) (m : Nat) (ops : List AOper) {c : Prop} [Decidable c] (x y : Option St) : xNu R ls m ops (if c then x else y) = if c then xNu R ls m ops x else xNu R ls m ops y := by split <;> rfl
theorem xDb (ls : List (Nat × Nat × Nat × Nat)) (s : St) : xH9 ls (some s) = if ls.all (apart s.F) = true then some (.normal,s) else none := rfl
theorem xDc (ls : List (Nat × Nat × Nat × Nat)) : xH9 ls none = none := rfl
theorem xEx (ls : List (Nat × Nat × Nat × Nat)) {c : Prop} [Decidable c] (x y : Option St) : xH9 ls (if c then x else y) = if c then xH9 ls x else xH9 ls y := by split <;> rfl
def xTE (R : Rec) (rest : List AOper) : Option St → Option St
 | some s => xBT R rest s
 | none => none
theorem xDd : xBT R [] s = some s := rfl
theorem xCx (o : AOper) (rest : List AOper) : xBT R (o :: rest) s = xTE R rest (xBn R o s) := by
 simp only [xBT,xTE]
 cases xBn R o s <;> rfl
theorem xEy (rest : List AOper) (s : St) : xTE R rest (some s) = xBT R rest s := rfl
theorem xEz (rest : List AOper) : xTE R rest none = none := rfl
theorem xGh (rest : List AOper) {c : Prop} [Decidable c] (x y : Option St) : xTE R rest (if c then x else y) = if c then xTE R rest x else xTE R rest y := by split <;> rfl
def xNv (F : List AV) (d : Option Nat) (H : Heap) : Option (AV × Heap) → Option St
 | some (v,_) => some ⟨xDX F d v,H⟩
 | none => none
theorem xIE (d : Nat) (v : AV) (H' : Heap) : xNv F (some d) H (some (v,H')) = some ⟨F.set d v,H⟩ := rfl
theorem xIF (v : AV) (H' : Heap) : xNv F none H (some (v,H')) = some ⟨F,H⟩ := rfl
theorem xEA (d : Option Nat) : xNv F d H none = none := rfl
theorem xGi (d : Option Nat) {c : Prop} [Decidable c] (x y : Option (AV × Heap)) : xNv F d H (if c then x else y) = if c then xNv F d H x else xNv F d H y := by split <;> rfl
def xBm (R : Rec) (F : List AV) (H : Heap) (op : AOp) : Option (AV × Heap) := (xA4 R F H op).map fun v => (v,H)
theorem xEB (d : Option Nat) (op : AOp) : xBn R ⟨d,op,none⟩ ⟨F,H⟩ = xNv F d H (xBm R F H op) := by
 simp only [xBn,xCq,xNv,xBm]
 cases xA4 R F H op <;> rfl
def xQr (R : Rec) (d : Option Nat) (op : AOp) (w : Bool) (F : List AV) (H : Heap) : AV → Option St
 | .bool b => if b = w then xNv F d H (xBm R F H op) else some ⟨xDX F d (.tup []),H⟩
 | .any => none
 | _ => some ⟨xDX F d (.tup []),H⟩
theorem xDe (d : Option Nat) (op : AOp) (t : Nat) (w : Bool) : xBn R ⟨d,op,some (t,w)⟩ ⟨F,H⟩ = xQr R d op w F H (F.getD t .any) := by
 simp only [xBn,xCq,xQr]
 cases F.getD t .any with
 | bool b =>
  cases b <;> cases w <;> simp [xNv,xBm] <;> cases xA4 R F H op <;> rfl
 | _ => rfl
theorem xCy (d : Option Nat) (op : AOp) (w b : Bool) : xQr R d op w F H (.bool b) = if b = w then xNv F d H (xBm R F H op) else some ⟨xDX F d (.tup []),H⟩ := rfl
theorem xDf (d : Option Nat) (op : AOp) (w : Bool) (vs : List AV) : xQr R d op w F H (.tup vs) = some ⟨xDX F d (.tup []),H⟩ := rfl
def xFs (H : Heap) : Option AV → Option (AV × Heap)
 | some v => some (v,H)
 | none => none
theorem xGj (v : AV) : xFs H (some v) = some (v,H) := rfl
theorem xGk : xFs H none = none := rfl
theorem xIG {c : Prop} [Decidable c] (x y : Option AV) : xFs H (if c then x else y) = if c then xFs H x else xFs H y := by split <;> rfl
theorem xOW (x : Arg) : xAh R F H (.mov x) = some (opv F x,H) := rfl
def yBs : AV → AV → AV → Option AV
 | .bool t,a,b => some (if t = true then a else b)
 | _,_,_ => none
theorem xEC (t : Bool) (a b : AV) : yBs (.bool t) a b = some (if t = true then a else b) := rfl
theorem xKY (c a b : Arg) : xAh R F H (.pick c a b) = xFs H (yBs (opv F c) (opv F a) (opv F b)) := by
 simp only [xAh,yBs,xFs]
 split <;> simp_all
theorem xOX (x : Arg) : xAh R F H (.box x) = if (opv F x).cells.all AV.isCell = true then some (.ptr H.length 0,H ++ [.cells false false (opv F x).cells]) else none := rfl
theorem xIH (z : List AV) (parts : List (Nat × Nat × Arg)) : xAh R F H (.build z parts) =
  if parts.all (fun p => (opv F p.2.2).cells.length == p.2.1) = true then xFs H ((fillA z (parts.map fun p => (p.1,(opv F p.2.2).cells))).map AV.agg) else none := by
 simp only [xAh,xFs]
 split
 ·cases fillA z (parts.map fun p => (p.1,(opv F p.2.2).cells)) <;> rfl
 ·rfl
def yDi (fz z : Bool) (n es : Nat) (H : Heap) : Option (List AV) → Option (AV × Heap)
 | some cs => xJU fz z n es cs H
 | none => none
theorem xGl (fz z : Bool) (n es : Nat) (cs : List AV) : yDi fz z n es H (some cs) = xJU fz z n es cs H := rfl
theorem xII (z : Bool) (n es : Nat) (cs : List AV) : xJU false z n es cs H = some (.own z H.length 0 n es,H ++ [.cells false z cs]) := rfl
def slK (z : Bool) (n : Nat) : Option (List AV) → Option AV
 | some cs => some (.sl z n cs)
 | none => none
theorem xIJ (z : Bool) (n : Nat) (cs : List AV) : slK z n (some cs) = some (.sl z n cs) := rfl
theorem xGm (z : Bool) (n es : Nat) (cs : List AV) : xJU true z n es cs H = if (cs.flatMap (bor frzN H)).isEmpty = true then xFs H (slK z n (cs.mapM (frz frzN H))) else none := by
 simp only [xJU,xFs,slK]
 split
 ·rename_i h
  cases cs.mapM (frz frzN H) <;> simp_all
 ·simp_all
theorem xGn (fz : Bool) (z : List AV) (es n : Nat) (parts : List (Nat × Arg)) : xAh R F H (.bslice fz z es n parts) =
  if parts.all (fun p => (opv F p.2).cells.length == es) = true then yDi fz false n es H (fillA (xEj z n) (parts.map fun p => (p.1 * es,(opv F p.2).cells))) else none := by
 simp only [xAh,yDi]
 split
 ·cases fillA (xEj z n) (parts.map fun p => (p.1 * es,(opv F p.2).cells)) <;> rfl
 ·rfl
def xZP (g : Bool) : Option (List AV) → Option AV
 | some cs => mkv g cs
 | none => none
theorem xKZ (v : AV) : xZP false (some [v]) = some v := rfl
theorem xK0 (cs : List AV) : xZP true (some cs) = some (.agg cs) := rfl
theorem xK1 (g : Bool) (n : Nat) (p : Arg) : xAh R F H (.load g n p) = xFs H (xZP g (rd H (opv F p) n)) := by
 simp only [xAh,xFs,xZP]
 cases rd H (opv F p) n with
 | none => rfl
 | some cs => simp only; cases mkv g cs <;> rfl
def rdK (off n : Nat) : Option Blk → Option (List AV)
 | some (.cells _ _ cs) => if off + n ≤ cs.length then some ((cs.drop off).take n) else none
 | _ => none
theorem xOY (id off n : Nat) : rd H (.ptr id off) n = rdK off n H[id]? := by
 simp only [rd,rdK]
 rfl
theorem xGo {off n : Nat} {fz z : Bool} {cs : List AV} (h : off + n ≤ cs.length) : rdK off n (some (.cells fz z cs)) = some ((cs.drop off).take n) := if_pos h
theorem xK2 {off n : Nat} {cs : List AV} (h : off + n ≤ cs.length) : rd H (.vptr cs off) n = some ((cs.drop off).take n) := if_pos h
def wrK (H : Heap) (id off : Nat) (vs : List AV) : Option Blk → Option Heap
 | some (.cells false z cs) => if off + vs.length ≤ cs.length ∧ vs.all AV.isCell = true then some (H.set id (.cells false z (splice cs off vs))) else none
 | _ => none
theorem xOZ (id off : Nat) (vs : List AV) : wr H (.ptr id off) vs = wrK H id off vs H[id]? := by
 simp only [wr,wrK]
 rfl
theorem xGp {id off : Nat} {vs : List AV} {z : Bool} {cs : List AV} (h : off + vs.length ≤ cs.length) (h2 : vs.all AV.isCell = true) : wrK H id off vs (some (.cells false z cs)) = some (H.set id (.cells false z (splice cs off vs))) := if_pos ⟨h,h2⟩
def xXB : Option Heap → Option (AV × Heap)
 | some H => some (.tup [],H)
 | none => none
theorem xDg (H : Heap) : xXB (some H) = some (.tup [],H) := rfl
theorem xIK (n : Nat) (p v : Arg) : xAh R F H (.store n p v) = if (opv F v).cells.length = n then xXB (wr H (opv F p) (opv F v).cells) else none := by
 simp only [xAh,xXB]
 split
 ·cases wr H (opv F p) (opv F v).cells <;> rfl
 ·rfl
def yCy : AV → Option AV
 | .ptr id off => some (.ptr id off)
 | .vptr cs off => some (.vptr cs off)
 | .func f caps => some (.func f caps)
 | .yield l => some (.yield l)
 | _ => none
theorem xIL (id off : Nat) : yCy (.ptr id off) = some (.ptr id off) := rfl
theorem xGq (cs : List AV) (off : Nat) : yCy (.vptr cs off) = some (.vptr cs off) := rfl
theorem xGr (f : Nat) (cs : List AV) : yCy (.func f cs) = some (.func f cs) := rfl
theorem xED (l : Nat) : yCy (.yield l) = some (.yield l) := rfl
theorem xGs (x : Arg) : xAh R F H (.nilchk x) = xFs H (yCy (opv F x)) := by
 simp only [xAh]
 cases opv F x <;> rfl
theorem xO0 (op : BinOp) (x y : Arg) : xAh R F H (.bin op x y) = xFs H (xHv op (opv F x) (opv F y)) := by
 simp only [xAh,xFs]
 cases xHv op (opv F x) (opv F y) <;> rfl
section
variable (k : IntKind) (a b : Int)
theorem xK3 : xHv .add (.int k a) (.int k b) = some (.int k (k.wrap (a + b))) := by simp [xHv]
theorem xK4 : xHv .sub (.int k a) (.int k b) = some (.int k (k.wrap (a - b))) := by simp [xHv]
theorem xK5 : xHv .mul (.int k a) (.int k b) = some (.int k (k.wrap (a * b))) := by simp [xHv]
theorem xK6 (h : b ≠ 0) : xHv .quo (.int k a) (.int k b) = some (.int k (k.wrap (a.tdiv b))) := by simp [xHv,h]
theorem xK7 (h : b ≠ 0) : xHv .rem (.int k a) (.int k b) = some (.int k (a.tmod b)) := by simp [xHv,h]
theorem xK8 : xHv .and (.int k a) (.int k b) = some (.int k (xJC .and k a b)) := by simp [xHv]
theorem xO1 : xHv .or (.int k a) (.int k b) = some (.int k (xJC .or k a b)) := by simp [xHv]
theorem xK9 : xHv .xor (.int k a) (.int k b) = some (.int k (xJC .xor k a b)) := by simp [xHv]
theorem xEE : xHv .andNot (.int k a) (.int k b) = some (.int k (xJC .andNot k a b)) := by simp [xHv]
theorem xLa (k' : IntKind) (h : 0 ≤ b) : xHv .shl (.int k a) (.int k' b) = some (.int k (k.wrap (a * 2 ^ (min b.toNat k.bits)))) := by simp only [xHv]; rw [if_neg (by omega)]
theorem xLb (k' : IntKind) (h : 0 ≤ b) : xHv .shr (.int k a) (.int k' b) = some (.int k (a.fdiv (2 ^ (min b.toNat k.bits)))) := by simp only [xHv]; rw [if_neg (by omega)]
theorem xLc : xHv .eql (.int k a) (.int k b) = some (.bool (decide (a = b))) := by simp [xHv]; rfl
theorem xLd : xHv .neq (.int k a) (.int k b) = some (.bool (!decide (a = b))) := by simp [xHv]; rfl
theorem xLe : xHv .lss (.int k a) (.int k b) = some (.bool (decide (a < b))) := by simp [xHv]
theorem xLf : xHv .leq (.int k a) (.int k b) = some (.bool (decide (a ≤ b))) := by simp [xHv]
theorem xLg : xHv .gtr (.int k a) (.int k b) = some (.bool (decide (b < a))) := by simp [xHv]
theorem xLh : xHv .geq (.int k a) (.int k b) = some (.bool (decide (b ≤ a))) := by simp [xHv]
end
def yDj (neg : Bool) : AV → AV → Option AV
 | .bool a,.bool b => some (.bool (if neg = true then a != b else a == b))
 | _,_ => none
theorem xO2 (a b : Bool) : yDj false (.bool a) (.bool b) = some (.bool (decide (a = b))) := by cases a <;> cases b <;> rfl
theorem xO3 (a b : Bool) : yDj true (.bool a) (.bool b) = some (.bool (!decide (a = b))) := by cases a <;> cases b <;> rfl
theorem xO4 (neg : Bool) (x y : Arg) : xAh R F H (.beq neg x y) = xFs H (yDj neg (opv F x) (opv F y)) := by
 simp only [xAh]
 cases opv F x <;> cases opv F y <;> rfl
def xSx (neg : Bool) : AV → Option AV
 | .sl z _ _ => some (.bool (z != neg))
 | .own z _ _ _ _ => some (.bool (z != neg))
 | _ => none
theorem xEF (z : Bool) (n : Nat) (cs : List AV) : xSx false (.sl z n cs) = some (.bool z) := by cases z <;> rfl
theorem xEG (z : Bool) (n : Nat) (cs : List AV) : xSx true (.sl z n cs) = some (.bool (!z)) := by cases z <;> rfl
theorem xDh (z : Bool) (id off n es : Nat) : xSx false (.own z id off n es) = some (.bool z) := by cases z <;> rfl
theorem xDi (z : Bool) (id off n es : Nat) : xSx true (.own z id off n es) = some (.bool (!z)) := by cases z <;> rfl
theorem xIM (neg : Bool) (x : Arg) : xAh R F H (.isnil neg x) = xFs H (xSx neg (opv F x)) := by
 simp only [xAh]
 cases opv F x <;> rfl
theorem xVW (op : UnOp) (x : Arg) : xAh R F H (.un op x) = xFs H (unA op (opv F x)) := by
 simp only [xAh,xFs]
 cases unA op (opv F x) <;> rfl
theorem xO5 (b : Bool) : unA .not (.bool b) = some (.bool !b) := rfl
theorem xO6 (k : IntKind) (n : Int) : unA .neg (.int k n) = some (.int k (k.wrap (0 - n))) := rfl
theorem xO7 (k : IntKind) (n : Int) : unA .xor (.int k n) = some (.int k (xJC .xor k (if k.signed then -1 else k.max) n)) := rfl
def yCz (k : IntKind) : AV → Option AV
 | .int _ n => some (.int k (k.wrap n))
 | _ => none
theorem xGt (k k' : IntKind) (n : Int) : yCz k (.int k' n) = some (.int k (k.wrap n)) := rfl
theorem xLi (k : IntKind) (x : Arg) : xAh R F H (.conv k x) = xFs H (yCz k (opv F x)) := by
 simp only [xAh]
 cases opv F x <;> rfl
theorem xGu (f : Nat) (caps : List Arg) : xAh R F H (.mkfunc f caps) = some (.func f (caps.map (opv F)),H) := rfl
def yEb (fz : Bool) (z : List AV) (bytes : Nat) (H : Heap) : AV → AV → Option (AV × Heap)
 | .int _ l,.int _ c => if 0 ≤ l ∧ l ≤ c ∧ c * bytes ≤ xBI ∧ c ≤ xBI ∧ z.all AV.isCell = true then xJU fz false l.toNat z.length (xEj z l.toNat) H else none
 | _,_ => none
theorem xIN (fz : Bool) (z : List AV) (bytes : Nat) (k k' : IntKind) {l c : Int} (h1 : 0 ≤ l) (h2 : l ≤ c) (h3 : c * bytes ≤ 140737488355328) (h4 : c ≤ 140737488355328) (h5 : z.all AV.isCell = true) : yEb fz z bytes H (.int k l) (.int k' c) = xJU fz false l.toNat z.length (xEj z l.toNat) H := if_pos ⟨h1,h2,h3,h4,h5⟩
theorem xEH (fz : Bool) (z : List AV) (bytes : Nat) (l c : Arg) : xAh R F H (.mkslice fz z bytes l c) = yEb fz z bytes H (opv F l) (opv F c) := by
 simp only [xAh]
 cases opv F l <;> cases opv F c <;> rfl
def yBt (es : Nat) (H : Heap) (x : AV) : Option (Nat × Nat) → Option AV
 | none => none
 | some (l,h) => match x with
  | .sl z _ cs => some (.sl z (h - l) ((cs.drop (l * es)).take ((h - l) * es)))
  | .own z id off _ _ => some (.own z id (off + l * es) (h - l) es)
  | _ => none
def xUP (es : Nat) (H : Heap) (lo hi mx : Option AV) : AV → Option AV
 | .sl z n cs => if cs.length = n * es then yBt es H (.sl z n cs) (xB4 n lo hi mx) else none
 | .own z id off n es' => if es' = es then yBt es H (.own z id off n es') (xB4 n lo hi mx) else none
 | _ => none
theorem xIO (es : Nat) (x : Arg) (lo hi mx : Option Arg) : xAh R F H (.slice es x lo hi mx) = xFs H (xUP es H (lo.map (opv F)) (hi.map (opv F)) (mx.map (opv F)) (opv F x)) := by
 simp only [xAh,xFs,xUP,yBt]
 cases opv F x with
 | sl z n cs =>
  simp only
  split
  ·cases xB4 n (lo.map (opv F)) (hi.map (opv F)) (mx.map (opv F)) <;> rfl
  ·rfl
 | own z id off n es' =>
  simp only
  split
  ·cases xB4 n (lo.map (opv F)) (hi.map (opv F)) (mx.map (opv F)) <;> rfl
  ·rfl
 | _ => rfl
theorem xGv {es n : Nat} {z : Bool} {cs : List AV} (lo hi mx : Option AV) (h : cs.length = n * es) : xUP es H lo hi mx (.sl z n cs) = yBt es H (.sl z n cs) (xB4 n lo hi mx) := if_pos h
theorem xEI {es n id off : Nat} {z : Bool} (lo hi mx : Option AV) : xUP es H lo hi mx (.own z id off n es) = yBt es H (.own z id off n es) (xB4 n lo hi mx) := if_pos rfl
theorem xLj (es : Nat) (z : Bool) (n : Nat) (cs : List AV) (l h : Nat) : yBt es H (.sl z n cs) (some (l,h)) = some (.sl z (h - l) ((cs.drop (l * es)).take ((h - l) * es))) := rfl
theorem xIP (es : Nat) (z : Bool) (id off n es' : Nat) (l h : Nat) : yBt es H (.own z id off n es') (some (l,h)) = some (.own z id (off + l * es) (h - l) es) := rfl
theorem xGw (n : Nat) : xB4 n none none none = some (0,n) := by simp [xB4]
theorem xGx {n : Nat} {k : IntKind} {l : Int} (h0 : 0 ≤ l) (h : l ≤ n) : xB4 n (some (.int k l)) none none = some (l.toNat,n) := by
 simp only [xB4,xBU,if_pos h0]
 rw [if_pos ⟨by omega,by omega⟩]
theorem xGy {n : Nat} {k : IntKind} {m : Int} (h0 : 0 ≤ m) (h : m ≤ n) : xB4 n none (some (.int k m)) none = some (0,m.toNat) := by
 simp only [xB4,xBU,if_pos h0]
 rw [if_pos ⟨by omega,by omega⟩]
theorem xGz {n : Nat} {k k' : IntKind} {l m : Int} (h0 : 0 ≤ l) (h1 : l ≤ m) (h : m ≤ n) : xB4 n (some (.int k l)) (some (.int k' m)) none = some (l.toNat,m.toNat) := by
 have h2 : 0 ≤ m := by omega
 simp only [xB4,xBU,if_pos h0,if_pos h2]
 rw [if_pos ⟨by omega,by omega⟩]
def xXC (o : Nat) : AV → Option AV
 | .ptr id off => some (.ptr id (off + o))
 | .vptr cs off => some (.vptr cs (off + o))
 | _ => none
theorem xEJ (o id off : Nat) : xXC o (.ptr id off) = some (.ptr id (off + o)) := rfl
theorem xDj (o : Nat) (cs : List AV) (off : Nat) : xXC o (.vptr cs off) = some (.vptr cs (off + o)) := rfl
theorem xIQ (o : Nat) (x : Arg) : xAh R F H (.faddr o x) = xFs H (xXC o (opv F x)) := by
 simp only [xAh]
 cases opv F x <;> rfl
def xXD (g : Bool) (off n : Nat) : AV → Option AV
 | .agg cs => if off + n ≤ cs.length then mkv g ((cs.drop off).take n) else none
 | _ => none
theorem xEK {g : Bool} {off n : Nat} {cs : List AV} (h : off + n ≤ cs.length) : xXD g off n (.agg cs) = mkv g ((cs.drop off).take n) := if_pos h
theorem xVX (v : AV) : mkv false [v] = some v := rfl
theorem xVY (cs : List AV) : mkv true cs = some (.agg cs) := rfl
theorem xIR (g : Bool) (off n : Nat) (x : Arg) : xAh R F H (.field g off n x) = xFs H (xXD g off n (opv F x)) := by
 simp only [xAh]
 cases opv F x with
 | agg cs =>
  simp only [xXD,xFs]
  split
  ·cases mkv g ((cs.drop off).take n) <;> rfl
  ·rfl
 | _ => rfl
def xO8 (es : Nat) : AV → AV → Option AV
 | .sl _ n cs,.int _ i => if 0 ≤ i ∧ i.toNat < n then some (.vptr cs (i.toNat * es)) else none
 | .own _ id off n es',.int _ i => if 0 ≤ i ∧ i.toNat < n ∧ es' = es then some (.ptr id (off + i.toNat * es)) else none
 | _,_ => none
theorem xGA {es n : Nat} {z : Bool} {cs : List AV} {k : IntKind} {i : Int} (h0 : 0 ≤ i) (h : i < n) : xO8 es (.sl z n cs) (.int k i) = some (.vptr cs (i.toNat * es)) := if_pos ⟨h0,by omega⟩
theorem xEL {es n id off : Nat} {z : Bool} {k : IntKind} {i : Int} (h0 : 0 ≤ i) (h : i < n) : xO8 es (.own z id off n es) (.int k i) = some (.ptr id (off + i.toNat * es)) := if_pos ⟨h0,by omega,rfl⟩
theorem xIS (es : Nat) (x i : Arg) : xAh R F H (.iaddr es x i) = xFs H (xO8 es (opv F x) (opv F i)) := by
 simp only [xAh]
 cases opv F x with
 | sl z n cs =>
  cases opv F i with
  | int k j =>
   simp only [xBU,xO8,xFs]
   by_cases h : 0 ≤ j
   ·by_cases h2 : j.toNat < n <;> simp [h,h2]
   ·simp [h]
  | _ => rfl
 | own z id off n es' =>
  cases opv F i with
  | int k j =>
   simp only [xBU,xO8,xFs]
   by_cases h : 0 ≤ j
   ·by_cases h2 : j.toNat < n
    ·by_cases h3 : es' = es <;> simp [h,h2,h3]
    ·simp [h,h2]
   ·simp [h]
  | _ => rfl
 | _ => cases opv F i <;> simp [xO8,xFs,xBU] <;> split <;> simp_all
def yDk (i : Nat) : AV → Option AV
 | .tup vs => vs[i]?
 | _ => none
theorem xIT (i : Nat) (vs : List AV) : yDk i (.tup vs) = vs[i]? := rfl
theorem xO9 (i : Nat) (x : Arg) : xAh R F H (.ext i x) = xFs H (yDk i (opv F x)) := by
 simp only [xAh]
 cases opv F x with
 | tup vs => simp only [yDk,xFs]; cases vs[i]? <;> rfl
 | _ => rfl
def yDl : AV → Option AV
 | .sl _ n _ => some (.int .i64 n)
 | .own _ _ _ n _ => some (.int .i64 n)
 | _ => none
theorem xLk (z : Bool) (n : Nat) (cs : List AV) : yDl (.sl z n cs) = some (.int .i64 n) := rfl
theorem xIU (z : Bool) (id off n es : Nat) : yDl (.own z id off n es) = some (.int .i64 n) := rfl
theorem xPa (x : Arg) : xAh R F H (.len x) = xFs H (yDl (opv F x)) := by
 simp only [xAh]
 cases opv F x <;> rfl
theorem xPb (x : Arg) : xAh R F H (.cap x) = match opv F x with
 | .sl true _ _ => some (.int .i64 0,H)
 | _ => none := rfl
def yDm (neg : Bool) (n : Nat) : AV → AV → Option AV
 | .agg cs,.agg ds => if cs.length = n then (xCk cs ds).map fun b => .bool (b != neg) else none
 | _,_ => none
theorem xIV {neg : Bool} {n : Nat} {cs ds : List AV} (h : cs.length = n) : yDm neg n (.agg cs) (.agg ds) = (xCk cs ds).map fun b => .bool (b != neg) := if_pos h
theorem xPc (neg : Bool) (n : Nat) (x y : Arg) : xAh R F H (.aeq neg n x y) = xFs H (yDm neg n (opv F x) (opv F y)) := by
 simp only [xAh]
 cases opv F x with
 | agg cs => cases opv F y with
  | agg ds =>
   simp only [yDm,xFs]
   split
   ·cases xCk cs ds <;> rfl
   ·rfl
  | _ => rfl
 | _ => rfl
def yAE (fz : Bool) (es bytes : Nat) (H : Heap) (x : AV) : Option (Nat × List AV) → Option (AV × Heap)
 | none => none
 | some (m,ys) => match x with
  | .sl true _ _ => if m * bytes ≤ xBI ∧ m ≤ xBI then xJU fz (m == 0) m es ys H else none
  | .own z id off n es' => match H[id]? with
   | some (.cells false _ cs) => if off = 0 ∧ es' = es ∧ n * es ≤ cs.length ∧ (n + m) * bytes ≤ xBI ∧ n + m ≤ xBI then
     some (.own (z && m == 0) H.length 0 (n + m) es,H.set id .dead ++ [.cells false (z && m == 0) (cs.take (n * es) ++ ys)]) else none
   | _ => none
  | _ => none
theorem xFt (fz : Bool) (es bytes : Nat) (x y : Arg) : xAh R F H (.append fz es bytes x y) = yAE fz es bytes H (opv F x) (src H es (opv F y)) := by
 simp only [xAh,yAE]
 cases src H es (opv F y) <;> rfl
theorem xIW {fz : Bool} {es bytes n m : Nat} {cs ys : List AV} (h : m * bytes ≤ 140737488355328) (h2 : m ≤ 140737488355328) : yAE fz es bytes H (.sl true n cs) (some (m,ys)) = xJU fz (m == 0) m es ys H := if_pos ⟨h,h2⟩
def yBu (es bytes n m : Nat) (H : Heap) (z : Bool) (id : Nat) (ys : List AV) : Option Blk → Option (AV × Heap)
 | some (.cells false _ cs) => if n * es ≤ cs.length ∧ (n + m) * bytes ≤ xBI ∧ n + m ≤ xBI then
   some (.own (z && m == 0) H.length 0 (n + m) es,H.set id .dead ++ [.cells false (z && m == 0) (cs.take (n * es) ++ ys)]) else none
 | _ => none
theorem xIX (fz : Bool) (es bytes n m id : Nat) (z : Bool) (ys : List AV) : yAE fz es bytes H (.own z id 0 n es) (some (m,ys)) = yBu es bytes n m H z id ys H[id]? := by
 simp only [yAE,yBu]
 split
 ·rename_i z' cs hb
  by_cases h : n * es ≤ cs.length ∧ (n + m) * bytes ≤ xBI ∧ n + m ≤ xBI
  ·rw [if_pos h,if_pos ⟨trivial,trivial,h⟩]
  ·rw [if_neg h,if_neg (fun g => h g.2.2)]
 ·rename_i hne
  cases hb : H[id]? with
  | none => rfl
  | some b => cases b with
   | cells fz z cs => cases fz with
    | false => exact (hne _ _ hb).elim
    | true => rfl
   | _ => rfl
theorem xDk {es bytes n m id : Nat} {z z' : Bool} {ys cs : List AV} (h : n * es ≤ cs.length) (h2 : (n + m) * bytes ≤ 140737488355328) (h3 : n + m ≤ 140737488355328) : yBu es bytes n m H z id ys (some (.cells false z' cs)) =
  some (.own (z && m == 0) H.length 0 (n + m) es,H.set id .dead ++ [.cells false (z && m == 0) (cs.take (n * es) ++ ys)]) := if_pos ⟨h,h2,h3⟩
theorem xPd {es n : Nat} {z : Bool} {cs : List AV} (h : cs.length = n * es) : src H es (.sl z n cs) = some (n,cs) := if_pos h
def yDn (off n es : Nat) : Option Blk → Option (Nat × List AV)
 | some (.cells _ _ cs) => if off + n * es ≤ cs.length then some (n,(cs.drop off).take (n * es)) else none
 | _ => none
theorem xLl (es n id off : Nat) (z : Bool) : src H es (.own z id off n es) = yDn off n es H[id]? := by
 simp only [src,yDn]
 cases H[id]? with
 | none => rfl
 | some b => cases b <;> simp
theorem xEM {es n off : Nat} {fz z : Bool} {cs : List AV} (h : off + n * es ≤ cs.length) : yDn off n es (some (.cells fz z cs)) = some (n,(cs.drop off).take (n * es)) := if_pos h
def yCA (z : List AV) (bytes id off k es m : Nat) (H : Heap) : Option Blk → Option (AV × Heap)
 | some (.cells false _ cs) => if off = 0 ∧ es = z.length ∧ k * z.length ≤ cs.length ∧ (k + m) * bytes ≤ xBI ∧ k + m ≤ xBI ∧ 0 < m ∧ z.all AV.isCell = true then
   some (.own false H.length 0 (k + m) z.length,H.set id .dead ++ [.cells false false (cs.take (k * z.length) ++ xEj z m)]) else none
 | _ => none
def xMi (z : List AV) (bytes : Nat) (H : Heap) : AV → AV → Option (AV × Heap)
 | .sl true _ _,.int _ m => if 0 ≤ m ∧ m.toNat * bytes ≤ xBI ∧ m.toNat ≤ xBI ∧ z.all AV.isCell = true then xJU false (m.toNat == 0) m.toNat z.length (xEj z m.toNat) H else none
 | .own false id off k es,.int _ m => if 0 ≤ m then yCA z bytes id off k es m.toNat H H[id]? else none
 | _,_ => none
theorem xTF (z : List AV) (bytes id off k es m : Nat) (H : Heap) (b : Option Blk) : (match b with
   | some (.cells false _ cs) => if off = 0 ∧ es = z.length ∧ k * z.length ≤ cs.length ∧ (k + m) * bytes ≤ xBI ∧ k + m ≤ xBI ∧ 0 < m ∧ z.all AV.isCell = true then
     some (AV.own false H.length 0 (k + m) z.length,H.set id .dead ++ [.cells false false (cs.take (k * z.length) ++ xEj z m)]) else none
   | _ => none) = yCA z bytes id off k es m H b := by
 rcases b with _ | b
 ·rfl
 ·cases b with
  | cells fz zz cs => cases fz <;> rfl
  | _ => rfl
theorem xEN (z : List AV) (bytes : Nat) (x n : Arg) : xAh R F H (.appendz z bytes x n) = xMi z bytes H (opv F x) (opv F n) := by
 simp only [xAh]
 cases hn : opv F n with
 | int k m =>
  simp only [xBU]
  by_cases h : 0 ≤ m
  ·cases hx : opv F x with
   | sl zz nn cs => cases zz <;> simp [xMi,h]
   | own zz id off kk es =>
    cases zz with
    | true => simp [xMi,h]
    | false => simp only [h,if_true,xMi]; exact xTF _ _ _ _ _ _ _ _ _
   | _ => simp [xMi,h]
  ·cases hx : opv F x with
   | sl zz nn cs => cases zz <;> simp [xMi,h]
   | own zz id off kk es => cases zz <;> simp [xMi,h]
   | _ => simp [xMi,h]
 | _ =>
  cases hx : opv F x with
  | sl zz nn cs => cases zz <;> simp [xMi,xBU]
  | own zz id off kk es => cases zz <;> simp [xMi,xBU]
  | _ => simp [xMi,xBU]
theorem xGB {z : List AV} {bytes n : Nat} {cs : List AV} {k : IntKind} {m : Int} (h0 : 0 ≤ m) (h1 : m.toNat * bytes ≤ 140737488355328) (h2 : m.toNat ≤ 140737488355328) (h3 : z.all AV.isCell = true) : xMi z bytes H (.sl true n cs) (.int k m) = xJU false (m.toNat == 0) m.toNat z.length (xEj z m.toNat) H := if_pos ⟨h0,h1,h2,h3⟩
def yDo : AV → AV → Option AV
 | .int k a,.int _ b => some (.int k (max a b))
 | _,_ => none
def yDp : AV → AV → Option AV
 | .int k a,.int _ b => some (.int k (min a b))
 | _,_ => none
theorem xIY (k k' : IntKind) (a b : Int) : yDo (.int k a) (.int k' b) = some (.int k (max a b)) := rfl
theorem xIZ (k k' : IntKind) (a b : Int) : yDp (.int k a) (.int k' b) = some (.int k (min a b)) := rfl
theorem xLm (x y : Arg) : xAh R F H (.maxi x y) = xFs H (yDo (opv F x) (opv F y)) := by
 simp only [xAh]
 cases opv F x with
 | int k a => cases opv F y with
  | int k' b => simp only [yDo,xFs]; congr 3; split <;> omega
  | _ => rfl
 | _ => rfl
theorem xLn (x y : Arg) : xAh R F H (.mini x y) = xFs H (yDp (opv F x) (opv F y)) := by
 simp only [xAh]
 cases opv F x with
 | int k a => cases opv F y with
  | int k' b => simp only [yDp,xFs]; congr 3; split <;> omega
  | _ => rfl
 | _ => rfl
theorem xPe (z : List AV) : xEj z 0 = [] := rfl
theorem xPf (z : List AV) : xEj z 1 = z ++ ([]) := rfl
theorem xPg (z : List AV) : xEj z 2 = z ++ (z ++ ([])) := rfl
theorem xPh (z : List AV) : xEj z 3 = z ++ (z ++ (z ++ ([]))) := rfl
theorem xPi (z : List AV) : xEj z 4 = z ++ (z ++ (z ++ (z ++ ([])))) := rfl
theorem xPj (z : List AV) : xEj z 5 = z ++ (z ++ (z ++ (z ++ (z ++ ([]))))) := rfl
theorem xPk (z : List AV) : xEj z 6 = z ++ (z ++ (z ++ (z ++ (z ++ (z ++ ([])))))) := rfl
theorem xPl (z : List AV) : xEj z 7 = z ++ (z ++ (z ++ (z ++ (z ++ (z ++ (z ++ ([]))))))) := rfl
theorem xPm (z : List AV) : xEj z 8 = z ++ (z ++ (z ++ (z ++ (z ++ (z ++ (z ++ (z ++ ([])))))))) := rfl
theorem xPn (z : List AV) : xEj z 9 = z ++ (z ++ (z ++ (z ++ (z ++ (z ++ (z ++ (z ++ (z ++ ([]))))))))) := rfl
theorem xLo (z : List AV) : xEj z 10 = z ++ (z ++ (z ++ (z ++ (z ++ (z ++ (z ++ (z ++ (z ++ (z ++ ([])))))))))) := rfl
theorem xLp (z : List AV) : xEj z 11 = z ++ (z ++ (z ++ (z ++ (z ++ (z ++ (z ++ (z ++ (z ++ (z ++ (z ++ ([]))))))))))) := rfl
theorem xLq (z : List AV) : xEj z 12 = z ++ (z ++ (z ++ (z ++ (z ++ (z ++ (z ++ (z ++ (z ++ (z ++ (z ++ (z ++ ([])))))))))))) := rfl
theorem xHn (d : Nat) (k : IntKind) (n : Int) : frz d H (.int k n) = some (.int k n) := by cases d <;> rfl
theorem xI0 (d : Nat) (b : Bool) : frz d H (.bool b) = some (.bool b) := by cases d <;> rfl
theorem xLr (d : Nat) (b : ByteArray) : frz d H (.str b) = some (.str b) := by cases d <;> rfl
theorem xI1 (d : Nat) : frz d H .nilp = some .nilp := by cases d <;> rfl
theorem xI2 (d : Nat) : frz d H .nilf = some .nilf := by cases d <;> rfl
theorem xLs (d : Nat) : frz d H .any = some .any := by cases d <;> rfl
theorem xI3 (d f : Nat) : frz d H (.func f []) = some (.func f []) := by cases d <;> rfl
theorem xPo (d : Nat) (z : Bool) (n : Nat) (cs : List AV) : frz d H (.sl z n cs) = some (.sl z n cs) := by cases d <;> rfl
theorem xLt (d : Nat) (cs : List AV) : frz (d + 1) H (.agg cs) = (cs.mapM (frz d H)).map AV.agg := rfl
theorem xLu (d : Nat) (cs : List AV) : frz (d + 1) H (.tup cs) = (cs.mapM (frz d H)).map AV.tup := rfl
def yDq (d : Nat) (H : Heap) (z : Bool) (off n es : Nat) : Option Blk → Option AV
 | some (.cells _ _ cs) => if off + n * es ≤ cs.length then slK z n (((cs.drop off).take (n * es)).mapM (frz d H)) else none
 | _ => none
theorem xAj (d : Nat) (z : Bool) (id off n es : Nat) : frz (d + 1) H (.own z id off n es) = yDq d H z off n es H[id]? := by
 simp only [frz,yDq]
 cases H[id]? with
 | none => rfl
 | some b => cases b with
  | cells fz z' cs =>
   simp only
   split
   ·cases ((cs.drop off).take (n * es)).mapM (frz d H) <;> rfl
   ·rfl
  | _ => rfl
theorem xEO {d off n es : Nat} {z fz z' : Bool} {cs : List AV} (h : off + n * es ≤ cs.length) : yDq d H z off n es (some (.cells fz z' cs)) = slK z n (((cs.drop off).take (n * es)).mapM (frz d H)) := if_pos h
theorem xFJ (d : Nat) (k : IntKind) (n : Int) : bor d H (.int k n) = [] := by cases d <;> rfl
theorem xI4 (d : Nat) (b : Bool) : bor d H (.bool b) = [] := by cases d <;> rfl
theorem xLv (d : Nat) (b : ByteArray) : bor d H (.str b) = [] := by cases d <;> rfl
theorem xI5 (d : Nat) : bor d H .nilp = [] := by cases d <;> rfl
theorem xI6 (d : Nat) : bor d H .nilf = [] := by cases d <;> rfl
theorem xLw (d : Nat) : bor d H .any = [] := by cases d <;> rfl
theorem xI7 (d f : Nat) (cs : List AV) : bor d H (.func f cs) = [] := by cases d <;> rfl
theorem xPp (ss : List Nat) (b : ACode) (s : St) : run R (.fz ss b) s = run R b ⟨s.F,fzIds s.H (ss.flatMap fun i => bor frzN s.H (s.F.getD i .any))⟩ := rfl
def yDr (R : Rec) (i : Nat) (b : ACode) (s : St) (ids : List Nat) : Option AV → Option (AExit × St)
 | some v => run R b ⟨s.F.set i v,fzIds s.H ids⟩
 | none => none
theorem xLx (i : Nat) (b : ACode) (s : St) : run R (.fzs i b) s = yDr R i b s (bor frzN s.H (s.F.getD i .any)) (frz frzN s.H (s.F.getD i .any)) := by
 simp only [run,yDr]
 cases frz frzN s.H (s.F.getD i .any) <;> rfl
theorem xGC (i : Nat) (b : ACode) (s : St) (ids : List Nat) (v : AV) : yDr R i b s ids (some v) = run R b ⟨s.F.set i v,fzIds s.H ids⟩ := rfl
def yDs (d : Nat) (H : Heap) (off : Nat) : Option Blk → Option AV
 | some (.cells _ _ cs) => (cs.mapM (frz d H)).map fun cs' => .vptr cs' off
 | _ => none
theorem xLy (d i o : Nat) : frz (d + 1) H (.ptr i o) = yDs d H o H[i]? := by
 simp only [frz,yDs]
 cases H[i]? with
 | none => rfl
 | some b => cases b <;> rfl
theorem xEP (d : Nat) (o : Nat) (fz z : Bool) (cs : List AV) : yDs d H o (some (.cells fz z cs)) = (cs.mapM (frz d H)).map fun cs' => .vptr cs' o := rfl
theorem xI8 (d : Nat) (cs : List AV) (o : Nat) : frz d H (.vptr cs o) = some (.vptr cs o) := by cases d <;> rfl
def yBv (d : Nat) (H : Heap) : Option Blk → List Nat
 | some (.cells _ _ cs) => cs.flatMap (bor d H)
 | _ => []
theorem xLz (d i o : Nat) : bor (d + 1) H (.ptr i o) = i :: yBv d H H[i]? := by
 simp only [bor,yBv]
 cases H[i]? with
 | none => rfl
 | some b => cases b <;> rfl
theorem xDl (d : Nat) (fz z : Bool) (cs : List AV) : yBv d H (some (.cells fz z cs)) = cs.flatMap (bor d H) := rfl
theorem xI9 (d : Nat) (cs : List AV) (o : Nat) : bor d H (.vptr cs o) = [] := by cases d <;> rfl
def yBw : Option Blk → Bool
 | some (.cells true _ _) => true
 | _ => false
theorem xEQ (i : Nat) : xKM H i = yBw H[i]? := by
 simp only [xKM,yBw]
 cases H[i]? with
 | none => rfl
 | some b => cases b with
  | cells fz z cs => cases fz <;> rfl
  | _ => rfl
theorem xLA (z : Bool) (cs : List AV) : yBw (some (.cells true z cs)) = true := rfl
theorem xPq (d : Nat) (z : Bool) (n : Nat) (cs : List AV) : bor d H (.sl z n cs) = [] := by cases d <;> rfl
theorem xLB (d : Nat) (cs : List AV) : bor (d + 1) H (.agg cs) = cs.flatMap (bor d H) := rfl
theorem xLC (d : Nat) (cs : List AV) : bor (d + 1) H (.tup cs) = cs.flatMap (bor d H) := rfl
def yDt (d : Nat) (H : Heap) (off n es : Nat) : Option Blk → List Nat
 | some (.cells _ _ cs) => ((cs.drop off).take (n * es)).flatMap (bor d H)
 | _ => []
theorem xAk (d : Nat) (z : Bool) (id off n es : Nat) : bor (d + 1) H (.own z id off n es) = id :: yDt d H off n es H[id]? := by
 simp only [bor,yDt]
 cases H[id]? with
 | none => rfl
 | some b => cases b <;> rfl
theorem xER (d off n es : Nat) (fz z : Bool) (cs : List AV) : yDt d H off n es (some (.cells fz z cs)) = ((cs.drop off).take (n * es)).flatMap (bor d H) := rfl
def yAF (args : List AV) (H : Heap) : Option AV → Option (AV × Heap)
 | some r => some (r,if xAQ r = true then H else fzIds H (args.flatMap (bor frzN H)))
 | none => none
theorem xGD (args : List AV) (r : AV) : yAF args H (some r) = some (r,if xAQ r = true then H else fzIds H (args.flatMap (bor frzN H))) := rfl
theorem xGE (args : List AV) : yAF args H none = none := rfl
theorem xJa (args : List AV) {c : Prop} [Decidable c] (x y : Option AV) : yAF args H (if c then x else y) = if c then yAF args H x else yAF args H y := by split <;> rfl
def yDu (R : Rec) (f : Nat) (args : List AV) (H : Heap) : Option (List AV) → Option (AV × Heap)
 | some args' => yAF args H (R.pcall f args')
 | none => none
theorem xGF (f : Nat) (args args' : List AV) : yDu R f args H (some args') = yAF args H (R.pcall f args') := rfl
theorem xGG (f : Nat) (args : List AV) : xCi R f args H = yDu R f args H (args.mapM (frz frzN H)) := by
 simp only [xCi,yDu]
 cases args.mapM (frz frzN H) with
 | none => rfl
 | some args' => simp only [yAF]; cases R.pcall f args' <;> rfl
theorem xLD (f : Nat) (args : List Arg) : xAh R F H (.call f args) = xCi R f (args.map (opv F)) H := rfl
theorem xJb (f : Arg) (args : List Arg) : xAh R F H (.icall f args) = R.icall (opv F f) (args.map (opv F)) H := rfl
def yAG (R : Rec) (args : List AV) (H : Heap) : AV → Option (AV × Heap)
 | .func g caps => xCi R g (args ++ caps) H
 | _ => none
theorem xDm (args : List AV) (g : Nat) (caps : List AV) : yAG R args H (.func g caps) = xCi R g (args ++ caps) H := rfl
theorem xJc (f : Arg) (args : List Arg) : xAh R F H (.fcall f args) = yAG R (args.map (opv F)) H (opv F f) := by
 simp only [xAh]
 cases opv F f <;> rfl
def xJN (args : List AV) (H : Heap) : Option (AV × Heap) → Option (AV × Heap)
 | some (r,_) => if quietCall r H args = true then some (r,H) else none
 | none => none
theorem xDn (args : List AV) (r : AV) (H' : Heap) : xJN args H (some (r,H')) = if quietCall r H args = true then some (r,H) else none := rfl
theorem xDo (args : List AV) : xJN args H none = none := rfl
theorem xES (args : List AV) {c : Prop} [Decidable c] (x y : Option (AV × Heap)) : xJN args H (if c then x else y) = if c then xJN args H x else xJN args H y := by split <;> rfl
theorem xLE (f : Nat) (args : List Arg) : xBm R F H (.call f args) = xJN (args.map (opv F)) H (xCi R f (args.map (opv F)) H) := by
 simp only [xBm,xA4,xJN]
 cases xCi R f (args.map (opv F)) H with
 | none => rfl
 | some r => obtain ⟨r,H'⟩ := r; simp only; split <;> rfl
def xTG (R : Rec) (args : List AV) (H : Heap) : AV → Option (AV × Heap)
 | .func g caps => xJN (args ++ caps) H (xCi R g (args ++ caps) H)
 | _ => none
theorem xCz (args : List AV) (g : Nat) (caps : List AV) : xTG R args H (.func g caps) = xJN (args ++ caps) H (xCi R g (args ++ caps) H) := rfl
theorem xJd (f : Arg) (args : List Arg) : xBm R F H (.fcall f args) = xTG R (args.map (opv F)) H (opv F f) := by
 simp only [xBm,xA4,xJN,xTG]
 cases opv F f with
 | func g caps =>
  simp only
  cases xCi R g (args.map (opv F) ++ caps) H with
  | none => rfl
  | some r => obtain ⟨r,H'⟩ := r; simp only; split <;> rfl
 | _ => rfl
theorem xPr (v : AV) : xBm R F H (.box (.c v)) = if v.cells.all AV.isCell = true then some (.any,H) else none := by
 simp only [xBm,xA4]
 split <;> rfl
def xHy (H : Heap) : Option (AV × Heap) → Option (AV × Heap)
 | some (v,_) => some (v,H)
 | none => none
theorem xGH (v : AV) (H' : Heap) : xHy H (some (v,H')) = some (v,H) := rfl
theorem xGI : xHy H none = none := rfl
theorem xJe {c : Prop} [Decidable c] (x y : Option (AV × Heap)) : xHy H (if c then x else y) = if c then xHy H x else xHy H y := by split <;> rfl
theorem xDp (op : AOp) (h : xA4 R F H op = (xAh R F H op).map (·.1)) : xBm R F H op = xHy H (xAh R F H op) := by
 simp only [xBm,h,xHy]
 cases xAh R F H op <;> rfl
theorem xPs (x : Arg) : xBm R F H (.mov x) = xHy H (xAh R F H (.mov x)) := xDp _ rfl
theorem xLF (c a b : Arg) : xBm R F H (.pick c a b) = xHy H (xAh R F H (.pick c a b)) := xDp _ rfl
theorem xJf (z : List AV) (parts : List (Nat × Nat × Arg)) : xBm R F H (.build z parts) = xHy H (xAh R F H (.build z parts)) := xDp _ rfl
theorem xGJ (z : List AV) (es n : Nat) (parts : List (Nat × Arg)) : xBm R F H (.bslice true z es n parts) = xHy H (xAh R F H (.bslice true z es n parts)) := xDp _ rfl
theorem xLG (g : Bool) (n : Nat) (p : Arg) : xBm R F H (.load g n p) = xHy H (xAh R F H (.load g n p)) := xDp _ rfl
theorem xGK (x : Arg) : xBm R F H (.nilchk x) = xHy H (xAh R F H (.nilchk x)) := xDp _ rfl
theorem xPt (op : BinOp) (x y : Arg) : xBm R F H (.bin op x y) = xHy H (xAh R F H (.bin op x y)) := xDp _ rfl
theorem xPu (neg : Bool) (x y : Arg) : xBm R F H (.beq neg x y) = xHy H (xAh R F H (.beq neg x y)) := xDp _ rfl
theorem xJg (neg : Bool) (x : Arg) : xBm R F H (.isnil neg x) = xHy H (xAh R F H (.isnil neg x)) := xDp _ rfl
theorem xVZ (op : UnOp) (x : Arg) : xBm R F H (.un op x) = xHy H (xAh R F H (.un op x)) := xDp _ rfl
theorem xLH (k : IntKind) (x : Arg) : xBm R F H (.conv k x) = xHy H (xAh R F H (.conv k x)) := xDp _ rfl
theorem xGL (f : Nat) (caps : List Arg) : xBm R F H (.mkfunc f caps) = xHy H (xAh R F H (.mkfunc f caps)) := xDp _ rfl
theorem xET (z : List AV) (bytes : Nat) (l c : Arg) : xBm R F H (.mkslice true z bytes l c) = xHy H (xAh R F H (.mkslice true z bytes l c)) := xDp _ rfl
theorem xJh (es : Nat) (x : Arg) (lo hi mx : Option Arg) : xBm R F H (.slice es x lo hi mx) = xHy H (xAh R F H (.slice es x lo hi mx)) := xDp _ rfl
theorem xJi (o : Nat) (x : Arg) : xBm R F H (.faddr o x) = xHy H (xAh R F H (.faddr o x)) := xDp _ rfl
theorem xJj (g : Bool) (off n : Nat) (x : Arg) : xBm R F H (.field g off n x) = xHy H (xAh R F H (.field g off n x)) := xDp _ rfl
theorem xJk (es : Nat) (x i : Arg) : xBm R F H (.iaddr es x i) = xHy H (xAh R F H (.iaddr es x i)) := xDp _ rfl
theorem xPv (i : Nat) (x : Arg) : xBm R F H (.ext i x) = xHy H (xAh R F H (.ext i x)) := xDp _ rfl
theorem xPw (x : Arg) : xBm R F H (.len x) = xHy H (xAh R F H (.len x)) := xDp _ rfl
theorem xPx (x : Arg) : xBm R F H (.cap x) = xHy H (xAh R F H (.cap x)) := xDp _ rfl
theorem xPy (neg : Bool) (n : Nat) (x y : Arg) : xBm R F H (.aeq neg n x y) = xHy H (xAh R F H (.aeq neg n x y)) := xDp _ rfl
theorem xLI (x y : Arg) : xBm R F H (.maxi x y) = xHy H (xAh R F H (.maxi x y)) := xDp _ rfl
theorem xLJ (x y : Arg) : xBm R F H (.mini x y) = xHy H (xAh R F H (.mini x y)) := xDp _ rfl
def yBx (es bytes : Nat) (H : Heap) (x : AV) (o : Option (Nat × List AV)) : Option (AV × Heap) := match x with
 | .sl _ _ _ => xHy H (yAE true es bytes H x o)
 | _ => none
theorem xJl (es bytes : Nat) (z : Bool) (n : Nat) (cs : List AV) (o : Option (Nat × List AV)) : yBx es bytes H (.sl z n cs) o = xHy H (yAE true es bytes H (.sl z n cs) o) := rfl
theorem xGM (es bytes : Nat) (x y : Arg) : xBm R F H (.append true es bytes x y) = yBx es bytes H (opv F x) (src H es (opv F y)) := by
 simp only [xBm,xA4,yBx]
 cases h : opv F x with
 | sl z n cs =>
  simp only [xFt,h,xHy]
  cases yAE true es bytes H (.sl z n cs) (src H es (opv F y)) <;> rfl
 | _ => rfl
def xV0 (H : Heap) : Option AV → Option (AV × Heap)
 | some v => some (v,H)
 | none => none
theorem xEU (v : AV) : xV0 H (some v) = some (v,H) := rfl
def xSy (rs : List ARes) : Option (AExit × St) → Option (AV × Heap)
 | some (.normal,s) => xV0 s.H (xCo rs s)
 | some (.ret,s) => xV0 s.H (xCo rs s)
 | _ => none
theorem xCA (rs : List ARes) (F : List AV) (H : Heap) : xSy rs (some (.normal,⟨F,H⟩)) = xV0 H (xCo rs ⟨F,H⟩) := rfl
theorem xGN (rs : List ARes) (F : List AV) (H : Heap) : xSy rs (some (.ret,⟨F,H⟩)) = xV0 H (xCo rs ⟨F,H⟩) := rfl
theorem xEV (rs : List ARes) : xSy rs none = none := rfl
theorem xGO (rs : List ARes) {c : Prop} [Decidable c] (x y : Option (AExit × St)) : xSy rs (if c then x else y) = if c then xSy rs x else xSy rs y := by split <;> rfl
def pads : Nat → List AV
 | 0 => []
 | n + 1 => .tup [] :: pads n
theorem xXE : ∀ n,List.replicate n (AV.tup []) = pads n
 | 0 => rfl
 | n + 1 => by rw [List.replicate_succ,xXE n]; rfl
theorem xA3 (n : Nat) (code : ACode) (rs : List ARes) (args : List AV) : xBG R ⟨n,code,rs⟩ args H = xSy rs (run R code ⟨args ++ pads (n - args.length),H⟩) := by
 rw [← xXE]
 simp only [xBG,xSy,xWR,xV0]
 cases h : run R code ⟨args ++ List.replicate (n - args.length) (.tup []),H⟩ with
 | none => rfl
 | some r =>
  obtain ⟨e,s⟩ := r
  cases e with
  | exit i => rfl
  | _ => simp only; cases xCo rs s <;> rfl
def xNw : Option (AV × Heap) → Option AV
 | some (r,H') => frz frzN H' r
 | none => none
theorem xDq (r : AV) (H' : Heap) : xNw (some (r,H')) = frz frzN H' r := rfl
theorem xDr : xNw none = none := rfl
theorem xEW {c : Prop} [Decidable c] (x y : Option (AV × Heap)) : xNw (if c then x else y) = if c then xNw x else xNw y := by split <;> rfl
theorem xAK (fn : AFunc) (args : List AV) : xBg R fn args = xNw (xBG R fn args []) := by
 simp only [xBg,xNw]
 cases xBG R fn args [] <;> rfl
def yBy (g : Bool) : Option (List AV) → Option AV
 | some cs => mkv g cs
 | none => none
theorem xEX (g : Bool) (cs : List AV) : yBy g (some cs) = mkv g cs := rfl
theorem xLK (t : Nat) : xWQ ⟨F,H⟩ (.tmp t) = some (F.getD t .any) := rfl
theorem xJm (t : Nat) (g : Bool) (n : Nat) : xWQ ⟨F,H⟩ (.cell t g n) = yBy g (rd H (F.getD t .any) n) := by
 simp only [xWQ,yBy]
 cases rd H (F.getD t .any) n <;> rfl
theorem xGP : xCo [] s = some (.tup []) := rfl
theorem xGQ (r : ARes) : xCo [r] s = xWQ s r := rfl
def yDv (s : St) (rs : List ARes) : Option AV → Option (List AV)
 | some v => (xVL s rs).map (v :: ·)
 | none => none
theorem xGR (rs : List ARes) (v : AV) : yDv s rs (some v) = (xVL s rs).map (v :: ·) := rfl
theorem xJn : xVL s [] = some [] := rfl
theorem xGS (r : ARes) (rs : List ARes) : xVL s (r :: rs) = yDv s rs (xWQ s r) := by
 simp only [xVL,yDv]
 cases xWQ s r <;> rfl
theorem xGT (r r' : ARes) (rs : List ARes) : xCo (r :: r' :: rs) s = (xVL s (r :: r' :: rs)).map .tup := rfl
def xKm (F : List AV) (l : Nat) : Option (AV × Heap) → Option (AExit × St)
 | some (_,H') => match H'[l]? with
  | some (.loop st pend _ _ _ _) => if st = 1 then none else some ((match pend with | none => .normal | some e => e),⟨F,H'.set l .dead⟩)
  | _ => none
 | none => none
def xXF (R : Rec) (F : List AV) (H : Heap) (ps : List Nat) (asg body : ACode) : AV → Option (AExit × St)
 | .func g caps => xKm F H.length (R.icall (.func g caps) [.yield H.length] (H ++ [.loop 0 none F ps asg body]))
 | _ => none
theorem xGU (f : Arg) (ps : List Nat) (asg body : ACode) (F : List AV) (H : Heap) : run R (.range f ps asg body) ⟨F,H⟩ = xXF R F H ps asg body (opv F f) := by
 simp only [run]
 cases opv F f with
 | func g caps =>
  simp only [xXF,xKm]
  cases R.icall (.func g caps) [.yield H.length] (H ++ [.loop 0 none F ps asg body]) with
  | none => rfl
  | some r =>
   obtain ⟨v,H'⟩ := r
   simp only
   cases H'[H.length]? with
   | none => rfl
   | some b => cases b <;> rfl
 | _ => rfl
theorem xDs (ps : List Nat) (asg body : ACode) (g : Nat) (caps : List AV) : xXF R F H ps asg body (.func g caps) = xKm F H.length (R.icall (.func g caps) [.yield H.length] (H ++ [.loop 0 none F ps asg body])) := rfl
def xKn (l : Nat) (e : AExit) (H : Heap) : Option Blk → Option (AV × Heap)
 | some (.loop 1 _ F ps asg body) => some (match e with
  | .normal => (.bool true,H.set l (.loop 0 none F ps asg body))
  | e => (.bool false,H.set l (.loop 2 (some e) F ps asg body)))
 | _ => none
def xFu (l : Nat) : Option (AExit × St) → Option (AV × Heap)
 | some (e,s) => xKn l e s.H s.H[l]?
 | none => none
def xMp (R : Rec) (l : Nat) (body0 : ACode) (s : St) : Option Blk → Option (AV × Heap)
 | some (.loop 0 pend F ps asg body) => xFu l (run R body0 ⟨s.F,s.H.set l (.loop 1 pend F ps asg body)⟩)
 | _ => none
def xQs (R : Rec) (l : Nat) (body0 : ACode) : Option (AExit × St) → Option (AV × Heap)
 | some (.normal,s) => xMp R l body0 s s.H[l]?
 | _ => none
theorem xSz (l : Nat) (args : List AV) (H : Heap) (asg body : ACode) (F : List AV) (ps : List Nat) (pend : Option AExit) (hH : H[l]? = some (.loop 0 pend F ps asg body)) (h1 : args.length = ps.length) (h2 : asg.noRange = true) (h3 : body.noRange = true) :
  xKb R l args H = xQs R l body (run R asg ⟨(ps.zip args).foldl (fun F (p,v) => F.set p v) F,H⟩) := by
 unfold xKb
 rw [hH]
 simp only
 rw [if_pos ⟨h1,h2,h3⟩]
 cases ha : run R asg ⟨(ps.zip args).foldl (fun F (p,v) => F.set p v) F,H⟩ with
 | none => rfl
 | some r =>
  obtain ⟨e,s1⟩ := r
  cases e with
  | normal =>
   simp only [xQs]
   cases hb : s1.H[l]? with
   | none => rfl
   | some b =>
    cases b with
    | loop st pend1 F1 ps1 asg1 body1 =>
     match st with
     | 0 =>
      simp only [xMp]
      cases hr : run R body ⟨s1.F,s1.H.set l (.loop 1 pend1 F1 ps1 asg1 body1)⟩ with
      | none => rfl
      | some r =>
       obtain ⟨e,s2⟩ := r
       simp only [xFu]
       cases hc : s2.H[l]? with
       | none => rfl
       | some b =>
        cases b with
        | loop st2 pend2 F2 ps2 asg2 body2 =>
         match st2 with
         | 0 => rfl
         | 1 => rfl
         | _ + 2 => rfl
        | _ => rfl
     | _ + 1 => rfl
    | _ => rfl
  | _ => rfl
theorem xBL (l : Nat) (body0 : ACode) (F : List AV) (H : Heap) : xQs R l body0 (some (.normal,⟨F,H⟩)) = xMp R l body0 ⟨F,H⟩ H[l]? := rfl
theorem xCb (l : Nat) (body0 : ACode) (F : List AV) (H : Heap) (pend : Option AExit) (F1 : List AV) (ps : List Nat) (asg body : ACode) : xMp R l body0 ⟨F,H⟩ (some (.loop 0 pend F1 ps asg body)) = xFu l (run R body0 ⟨F,H.set l (.loop 1 pend F1 ps asg body)⟩) := rfl
theorem xBX (l : Nat) (e : AExit) (F : List AV) (H : Heap) : xFu l (some (e,⟨F,H⟩)) = xKn l e H H[l]? := rfl
theorem xCc (l : Nat) {c : Prop} [Decidable c] (x y : Option (AExit × St)) : xFu l (if c then x else y) = if c then xFu l x else xFu l y := by split <;> rfl
theorem xBM (l : Nat) (H : Heap) (pend : Option AExit) (F : List AV) (ps : List Nat) (asg body : ACode) : xKn l .normal H (some (.loop 1 pend F ps asg body)) = some (.bool true,H.set l (.loop 0 none F ps asg body)) := rfl
theorem xCd (l i : Nat) (H : Heap) (pend : Option AExit) (F : List AV) (ps : List Nat) (asg body : ACode) : xKn l (.exit i) H (some (.loop 1 pend F ps asg body)) = some (.bool false,H.set l (.loop 2 (some (.exit i)) F ps asg body)) := rfl
theorem xCB (l : Nat) (H : Heap) (pend : Option AExit) (F : List AV) (ps : List Nat) (asg body : ACode) : xKn l .ret H (some (.loop 1 pend F ps asg body)) = some (.bool false,H.set l (.loop 2 (some .ret) F ps asg body)) := rfl
def xMq (F : List AV) (l : Nat) (H : Heap) : Option Blk → Option (AExit × St)
 | some (.loop st pend _ _ _ _) => if st = 1 then none else some ((match pend with | none => .normal | some e => e),⟨F,H.set l .dead⟩)
 | _ => none
theorem xCe (l : Nat) (v : AV) (H : Heap) : xKm F l (some (v,H)) = xMq F l H H[l]? := by
 simp only [xKm,xMq]
theorem xEY (l : Nat) (H : Heap) (F1 : List AV) (ps : List Nat) (asg body : ACode) : xMq F l H (some (.loop 0 none F1 ps asg body)) = some (.normal,⟨F,H.set l .dead⟩) := rfl
theorem xEZ (l : Nat) (H : Heap) (e : AExit) (F1 : List AV) (ps : List Nat) (asg body : ACode) : xMq F l H (some (.loop 2 (some e) F1 ps asg body)) = some (e,⟨F,H.set l .dead⟩) := rfl
end
section
variable {R : Rec} {F : List AV} {H : Heap} {s : St}
def xXG : Option (AV × Heap) → Option (AV × List Blk)
 | some (r,H') => (xFI H' r).map fun (v,B) => (v,B.map (·.2))
 | none => none
theorem xBk (f : Nat) (args : List AV) : xBw R f args = xXG (R.icall (.func f []) args []) := by
 unfold xBw xXG
 cases R.icall (.func f []) args [] <;> rfl
theorem xDt (r : AV) (H' : Heap) : xXG (some (r,H')) = (xFI H' r).map fun (v,B) => (v,B.map (·.2)) := rfl
def ocK (H : Heap) (ids : List Nat) : Option (AV × List Blk) → Option (AV × Heap)
 | some (v,B) => some (xAG H.length v,fzIds H ids ++ B)
 | none => none
def xXH (R : Rec) (f : Nat) (H : Heap) (ids : List Nat) : Option (List AV) → Option (AV × Heap)
 | some args' => ocK H ids (xBw R f args')
 | none => none
theorem xJo (f : Nat) (args : List Arg) : xAh R F H (.ocall f args) = xXH R f H ((args.map (opv F)).flatMap (bor frzN H)) ((args.map (opv F)).mapM (frz frzN H)) := by
 simp only [xAh,xXH]
 cases (args.map (opv F)).mapM (frz frzN H) with
 | none => rfl
 | some args' =>
  simp only [ocK]
  cases xBw R f args' <;> rfl
theorem xDu (f : Nat) (ids : List Nat) (args' : List AV) : xXH R f H ids (some args') = ocK H ids (xBw R f args') := rfl
theorem xJp (ids : List Nat) (v : AV) (B : List Blk) : ocK H ids (some (v,B)) = some (xAG H.length v,fzIds H ids ++ B) := rfl
def yC1 (H : Heap) (ids : List Nat) : Option (AV × Heap) → Option (AV × Heap)
 | some (v,B) => some (xAG H.length v,fzIds H ids ++ B.map (xFr H.length))
 | none => none
def xTH (R : Rec) (f : Nat) (H : Heap) (ids : List Nat) : Option (List AV) → Option (AV × Heap)
 | some args' => yC1 H ids (xCZ R f args')
 | none => none
theorem xXI (f : Nat) (args : List Arg) : xAh R F H (.ocallw f args) = xTH R f H ((args.map (opv F)).flatMap (bor frzN H)) ((args.map (opv F)).mapM (frz frzN H)) := by
 simp only [xAh,xTH]
 cases (args.map (opv F)).mapM (frz frzN H) with
 | none => rfl
 | some args' =>
  simp only [yC1]
  cases xCZ R f args' <;> rfl
theorem xSA (f : Nat) (ids : List Nat) (args' : List AV) : xTH R f H ids (some args') = yC1 H ids (xCZ R f args') := rfl
theorem xXJ (ids : List Nat) (v : AV) (B : Heap) : yC1 H ids (some (v,B)) = some (xAG H.length v,fzIds H ids ++ B.map (xFr H.length)) := rfl
theorem xXK {f : Nat} {args : List AV} {v : AV} {B : Heap} (h : R.icall (.func f []) args [] = some (v,B)) (h1 : xAX v = true) : xCZ R f args = some (v,B) := by
 unfold xCZ
 rw [h]
 exact if_pos h1
def t1B (z : Bool) (id off n es : Nat) (B : List (Nat × Blk)) : Option Blk → Option (AV × List (Nat × Blk))
 | some (.cells false z' cs) => if cs.all xAF = true then some (.own z B.length off n es,B ++ [(id,.cells false z' cs)]) else none
 | _ => none
def t1I (z : Bool) (id off n es : Nat) (B : List (Nat × Blk)) (b : Option Blk) : Option Nat → Option (AV × List (Nat × Blk))
 | some k => some (.own z k off n es,B)
 | none => t1B z id off n es B b
theorem xGV (H : Heap) (z : Bool) (id off n es : Nat) (B : List (Nat × Blk)) : xJD H (.own z id off n es) B = t1I z id off n es B H[id]? (B.findIdx? (fun p => p.1 == id)) := by
 simp only [xJD,t1I]
 cases B.findIdx? (fun p => p.1 == id) with
 | some k => rfl
 | none =>
  simp only [t1B]
  cases H[id]? with
  | none => rfl
  | some b => cases b with
   | cells fz z' cs => cases fz <;> rfl
   | _ => rfl
theorem xLL (z : Bool) (id off n es : Nat) (B : List (Nat × Blk)) (b : Option Blk) (k : Nat) : t1I z id off n es B b (some k) = some (.own z k off n es,B) := rfl
theorem xLM (z : Bool) (id off n es : Nat) (B : List (Nat × Blk)) (z' : Bool) (cs : List AV) : t1I z id off n es B (some (.cells false z' cs)) none = if cs.all xAF = true then some (.own z B.length off n es,B ++ [(id,.cells false z' cs)]) else none := rfl
theorem xGW (H : Heap) (k : IntKind) (n : Int) (B : List (Nat × Blk)) : xJD H (.int k n) B = some (.int k n,B) := rfl
theorem xE0 (H : Heap) (b : Bool) (B : List (Nat × Blk)) : xJD H (.bool b) B = some (.bool b,B) := rfl
theorem xJq (H : Heap) (z : Bool) (n : Nat) (cs : List AV) (B : List (Nat × Blk)) : xJD H (.sl z n cs) B = some (.sl z n cs,B) := rfl
theorem xGX (H : Heap) (b : ByteArray) (B : List (Nat × Blk)) : xJD H (.str b) B = some (.str b,B) := rfl
def tkL (H : Heap) (vs : List AV) : Option (AV × List (Nat × Blk)) → Option (List AV × List (Nat × Blk))
 | some (v',B') => (xM4 H vs B').map fun (vs',B2) => (v' :: vs',B2)
 | none => none
theorem xGY (H : Heap) (B : List (Nat × Blk)) : xM4 H [] B = some ([],B) := rfl
theorem xE1 (H : Heap) (v : AV) (vs : List AV) (B : List (Nat × Blk)) : xM4 H (v :: vs) B = tkL H vs (xJD H v B) := by
 simp only [xM4,tkL]
 cases xJD H v B <;> rfl
theorem xJr (H : Heap) (vs : List AV) (v' : AV) (B' : List (Nat × Blk)) : tkL H vs (some (v',B')) = (xM4 H vs B').map fun (vs',B2) => (v' :: vs',B2) := rfl
theorem xGZ (H : Heap) (cs : List AV) (B : List (Nat × Blk)) : xKa H (.agg cs) B = if cs.all AV.isCell = true then (xM4 H cs B).map fun (cs',B') => (.agg cs',B') else none := rfl
theorem xG0 (H : Heap) (z : Bool) (id off n es : Nat) (B : List (Nat × Blk)) : xKa H (.own z id off n es) B = xJD H (.own z id off n es) B := rfl
theorem xG1 (H : Heap) (k : IntKind) (n : Int) (B : List (Nat × Blk)) : xKa H (.int k n) B = some (.int k n,B) := rfl
theorem xE2 (H : Heap) (b : Bool) (B : List (Nat × Blk)) : xKa H (.bool b) B = some (.bool b,B) := rfl
theorem xJs (H : Heap) (z : Bool) (n : Nat) (cs : List AV) (B : List (Nat × Blk)) : xKa H (.sl z n cs) B = some (.sl z n cs,B) := rfl
def yDw (H : Heap) (vs : List AV) : Option (AV × List (Nat × Blk)) → Option (List AV × List (Nat × Blk))
 | some (v',B') => (xH1 H vs B').map fun (vs',B2) => (v' :: vs',B2)
 | none => none
theorem xE3 (H : Heap) (B : List (Nat × Blk)) : xH1 H [] B = some ([],B) := rfl
theorem xDv (H : Heap) (v : AV) (vs : List AV) (B : List (Nat × Blk)) : xH1 H (v :: vs) B = yDw H vs (xKa H v B) := by
 simp only [xH1,yDw]
 cases xKa H v B <;> rfl
theorem xG2 (H : Heap) (vs : List AV) (v' : AV) (B' : List (Nat × Blk)) : yDw H vs (some (v',B')) = (xH1 H vs B').map fun (vs',B2) => (v' :: vs',B2) := rfl
theorem xDw (H : Heap) (vs : List AV) : xFI H (.tup vs) = (xH1 H vs []).map fun (vs',B) => (.tup vs',B) := rfl
theorem xDx (H : Heap) (cs : List AV) : xFI H (.agg cs) = xKa H (.agg cs) [] := rfl
theorem xDy (H : Heap) (z : Bool) (id off n es : Nat) : xFI H (.own z id off n es) = xJD H (.own z id off n es) [] := rfl
theorem xE4 (H : Heap) (z : Bool) (n : Nat) (cs : List AV) : xFI H (.sl z n cs) = some (.sl z n cs,[]) := rfl
theorem xG3 {α : Type} (p : α → Bool) : ([] : List α).findIdx? p = none := rfl
theorem xE5 {α : Type} (p : α → Bool) (a : α) (l : List α) : (a :: l).findIdx? p = if p a = true then some 0 else (l.findIdx? p).map (· + 1) := by
 rw [List.findIdx?_cons]
def xXL (R : Rec) (als : List (Nat × Nat)) (ls : List (Nat × Nat × Nat × Nat)) (m : Nat) (ops : List AOper) : Option (St × List Pr) → Option (AExit × St)
 | some (s,pl) => xH9 ls (xA8 R (ops.drop m) (xBy als pl s))
 | none => none
theorem xG4 (als : List (Nat × Nat)) (ls : List (Nat × Nat × Nat × Nat)) (m : Nat) (ops : List AOper) : run R (.drawp als ls m ops) s = xXL R als ls m ops (xA5 R (ops.take m) s) := by
 simp only [run,xXL]
 cases xA5 R (ops.take m) s with
 | none => rfl
 | some r =>
  obtain ⟨s1,pl⟩ := r
  simp only [xH9]
  cases xA8 R (ops.drop m) (xBy als pl s1) <;> rfl
theorem xDz (als : List (Nat × Nat)) (ls : List (Nat × Nat × Nat × Nat)) (m : Nat) (ops : List AOper) (s : St) (pl : List Pr) : xXL R als ls m ops (some (s,pl)) = xH9 ls (xA8 R (ops.drop m) (xBy als pl s)) := rfl
theorem xE6 (pl : List Pr) (s : St) : xBy [] pl s = adoptL pl s := rfl
def alK (als : List (Nat × Nat)) : St → St
 | ⟨F,H⟩ => ⟨xCj als F,H⟩
theorem xDA (p : Nat × Nat) (r : List (Nat × Nat)) (pl : List Pr) (s : St) : xBy (p :: r) pl s = alK (p :: r) (adoptL pl s) := rfl
theorem xPz (als : List (Nat × Nat)) (F : List AV) (H : Heap) : alK als ⟨F,H⟩ = ⟨xCj als F,H⟩ := rfl
theorem xE7 (F : List AV) : xCj [] F = F := rfl
theorem xDB (d q : Nat) (r : List (Nat × Nat)) (F : List AV) : xCj ((d,q) :: r) F = xCj r (F.set d (xZc (q / 4096) (F.getD (q % 4096) .any))) := rfl
theorem xAs (v : AV) : xZc 0 v = v := rfl
theorem xAt (vs : List AV) : xZc 1 (.tup vs) = vs.getD 0 .any := rfl
theorem xAu (vs : List AV) : xZc 2 (.tup vs) = vs.getD 1 .any := rfl
theorem xAv (vs : List AV) : xZc 3 (.tup vs) = vs.getD 2 .any := rfl
theorem xAw (z : Bool) (i o n e : Nat) : xCU (.own z i o n e) = .any := rfl
theorem xAx (i o : Nat) : xCU (.ptr i o) = .any := rfl
theorem xAL (z : Bool) (n : Nat) (cs : List AV) : xCU (.sl z n cs) = .any := rfl
theorem xAy (cs : List AV) : xCU (.agg cs) = .any := rfl
theorem xAz (k : IntKind) (n : Int) : xCU (.int k n) = .any := rfl
theorem xAl (b : Bool) : xCU (.bool b) = .any := rfl
theorem xAA (vs : List AV) : xCU (.tup vs) = .tup (vs.map xH3) := rfl
theorem xAm (z : Bool) (i o n e : Nat) : xH3 (.own z i o n e) = .any := rfl
theorem xAn (i o : Nat) : xH3 (.ptr i o) = .any := rfl
theorem xAB (z : Bool) (n : Nat) (cs : List AV) : xH3 (.sl z n cs) = .any := rfl
theorem xAo (cs : List AV) : xH3 (.agg cs) = .any := rfl
theorem xAp (k : IntKind) (n : Int) : xH3 (.int k n) = .int k n := rfl
theorem xAf (b : Bool) : xH3 (.bool b) = .bool b := rfl
def xXM (e : Pr) : Option (St × List Pr) → Option (St × List Pr)
 | some (s,l) => some (s,e :: l)
 | none => none
theorem xE8 (e : Pr) (s : St) (l : List Pr) : xXM e (some (s,l)) = some (s,e :: l) := rfl
def xXN (R : Rec) (rest : List AOper) (s : St) : Option Nat → Option (AV × List Blk) → Option (St × List Pr)
 | some t,some (v,B) => xXM (some (t,v,B)) (xA5 R rest ⟨s.F.set t (xCU v),s.H⟩)
 | _,_ => none
def xXO (R : Rec) (rest : List AOper) : Option St → Option (St × List Pr)
 | some s => xXM none (xA5 R rest s)
 | none => none
theorem xDC : xA5 R [] s = some (s,[]) := rfl
theorem xCC (o : AOper) (rest : List AOper) : xA5 R (o :: rest) s = if xBa o.op = true then xXN R rest s o.dst (xEb R s.F o.op) else xXO R rest (xBn R o s) := by
 simp only [xA5]
 split
 ·cases o.dst with
  | none => rfl
  | some t => cases xEb R s.F o.op with
   | none => rfl
   | some r =>
    obtain ⟨v,B⟩ := r
    simp only [xXN]
    cases xA5 R rest ⟨s.F.set t (xCU v),s.H⟩ <;> rfl
 ·cases xBn R o s with
  | none => rfl
  | some s1 =>
   simp only [xXO]
   cases xA5 R rest s1 <;> rfl
theorem xDD (rest : List AOper) (t : Nat) (v : AV) (B : List Blk) : xXN R rest s (some t) (some (v,B)) = xXM (some (t,v,B)) (xA5 R rest ⟨s.F.set t (xCU v),s.H⟩) := rfl
theorem xDE (rest : List AOper) (s : St) : xXO R rest (some s) = xXM none (xA5 R rest s) := rfl
def yBz : Option (AV × Heap) → Option (AV × List Blk)
 | some (v,B) => if xAX v = true ∧ xH2 B = true then some (v,B) else none
 | none => none
theorem xJt (op : AOp) : xEb R F op = if op.args.all (fun x => xAI (opv F x)) = true then yBz (xAh R F [] op) else none := by
 unfold xEb yBz
 split
 ·cases xAh R F [] op <;> rfl
 ·rfl
theorem xE9 (v : AV) (B : Heap) : yBz (some (v,B)) = if xAX v = true ∧ xH2 B = true then some (v,B) else none := rfl
theorem xCD (f : Nat) (as : List Arg) : xBa (.ocall f as) = true := rfl
theorem xFa (x : Arg) : xBa (.box x) = true := rfl
theorem xDF (z : List AV) (b : Nat) (x y : Arg) : xBa (.mkslice false z b x y) = true := rfl
theorem xDG (z : List AV) (b : Nat) (x y : Arg) : xBa (.mkslice true z b x y) = false := rfl
theorem xDH (z : List AV) (es n : Nat) (ps : List (Nat × Arg)) : xBa (.bslice false z es n ps) = true := rfl
theorem xDI (z : List AV) (es n : Nat) (ps : List (Nat × Arg)) : xBa (.bslice true z es n ps) = false := rfl
theorem xDJ (es b : Nat) (x y : Arg) : xBa (.append false es b x y) = true := rfl
theorem xDK (es b : Nat) (x y : Arg) : xBa (.append true es b x y) = false := rfl
theorem xDL (z : List AV) (b : Nat) (x y : Arg) : xBa (.appendz z b x y) = true := rfl
theorem xFb (x : Arg) : xBa (.mov x) = false := rfl
theorem xDM (x y z : Arg) : xBa (.pick x y z) = false := rfl
theorem xCE (z : List AV) (ps : List (Nat × Nat × Arg)) : xBa (.build z ps) = false := rfl
theorem xDN (g : Bool) (n : Nat) (x : Arg) : xBa (.load g n x) = false := rfl
theorem xCf (x : Arg) : xBa (.nilchk x) = false := rfl
theorem xFc (op : BinOp) (x y : Arg) : xBa (.bin op x y) = false := rfl
theorem xFd (g : Bool) (x y : Arg) : xBa (.beq g x y) = false := rfl
theorem xCF (g : Bool) (x : Arg) : xBa (.isnil g x) = false := rfl
theorem xG5 (op : UnOp) (x : Arg) : xBa (.un op x) = false := rfl
theorem xDO (k : IntKind) (x : Arg) : xBa (.conv k x) = false := rfl
theorem xCg (f : Nat) (as : List Arg) : xBa (.mkfunc f as) = false := rfl
theorem xCG (es : Nat) (x : Arg) (a b c : Option Arg) : xBa (.slice es x a b c) = false := rfl
theorem xCH (o : Nat) (x : Arg) : xBa (.faddr o x) = false := rfl
theorem xCI (g : Bool) (o n : Nat) (x : Arg) : xBa (.field g o n x) = false := rfl
theorem xCJ (es : Nat) (x i : Arg) : xBa (.iaddr es x i) = false := rfl
theorem xFe (i : Nat) (x : Arg) : xBa (.ext i x) = false := rfl
theorem xFf (x : Arg) : xBa (.len x) = false := rfl
theorem xFg (x : Arg) : xBa (.cap x) = false := rfl
theorem xFh (g : Bool) (n : Nat) (x y : Arg) : xBa (.aeq g n x y) = false := rfl
theorem xDP (f : Nat) (as : List Arg) : xBa (.call f as) = false := rfl
theorem xCK (f : Arg) (as : List Arg) : xBa (.fcall f as) = false := rfl
theorem xDQ (x y : Arg) : xBa (.maxi x y) = false := rfl
theorem xDR (x y : Arg) : xBa (.mini x y) = false := rfl
theorem xDS : xH2 [] = true := rfl
theorem xCL (z : Bool) (cs : List AV) (B : List Blk) : xH2 (.cells false z cs :: B) = (cs.all xAF && xH2 B) := rfl
theorem xQt {α : Type} {f : α → AV} (h : ∀ a,xAF (f a) = true) (l : List α) : (l.map f).all xAF = true := by
 simp [List.all_eq_true,h]
end
section
variable {R : Rec} {F : List AV} {H : Heap}
def yC2 (g : Bool) (es len : Nat) : AV → AV → Option AV
 | .agg cs,.int _ i => if 0 ≤ i ∧ i.toNat < len ∧ i.toNat * es + es ≤ cs.length then mkv g ((cs.drop (i.toNat * es)).take es) else none
 | _,_ => none
theorem xUQ {g : Bool} {es len : Nat} {cs : List AV} {k : IntKind} {i : Int} (h0 : 0 ≤ i) (h : i < len) (h2 : i.toNat * es + es ≤ cs.length) : yC2 g es len (.agg cs) (.int k i) = mkv g ((cs.drop (i.toNat * es)).take es) := if_pos ⟨h0,by omega,h2⟩
theorem yAH (g : Bool) (es len : Nat) (x i : Arg) : xAh R F H (.idx g es len x i) = xFs H (yC2 g es len (opv F x) (opv F i)) := by
 simp only [xAh]
 cases opv F x with
 | agg cs => cases opv F i with
  | int k n =>
   by_cases h0 : 0 ≤ n
   ·have e : xBU (.int k n) = some n.toNat := by simp [xBU,h0]
    simp only [e,yC2,h0,true_and]
    by_cases c : n.toNat < len ∧ n.toNat * es + es ≤ cs.length
    ·rw [if_pos c,if_pos c]
     cases mkv g ((cs.drop (n.toNat * es)).take es) <;> rfl
    ·rw [if_neg c,if_neg c]; rfl
   ·have e : xBU (.int k n) = none := by simp [xBU,h0]
    simp only [e,yC2,h0,false_and,if_false,xFs]
  | _ => rfl
 | _ => rfl
def xNx (es len : Nat) : AV → AV → Option AV
 | .ptr id off,.int _ i => if 0 ≤ i ∧ i.toNat < len then some (.ptr id (off + i.toNat * es)) else none
 | .vptr cs off,.int _ i => if 0 ≤ i ∧ i.toNat < len then some (.vptr cs (off + i.toNat * es)) else none
 | _,_ => none
theorem xPA {es len id off : Nat} {k : IntKind} {i : Int} (h0 : 0 ≤ i) (h : i < len) : xNx es len (.ptr id off) (.int k i) = some (.ptr id (off + i.toNat * es)) := if_pos ⟨h0,by omega⟩
theorem xNy {es len off : Nat} {cs : List AV} {k : IntKind} {i : Int} (h0 : 0 ≤ i) (h : i < len) : xNx es len (.vptr cs off) (.int k i) = some (.vptr cs (off + i.toNat * es)) := if_pos ⟨h0,by omega⟩
theorem xUR (es len : Nat) (x i : Arg) : xAh R F H (.arrat es len x i) = xFs H (xNx es len (opv F x) (opv F i)) := by
 simp only [xAh]
 cases opv F x with
 | ptr id off => cases opv F i with
  | int k n =>
   by_cases h0 : 0 ≤ n
   ·have e : xBU (.int k n) = some n.toNat := by simp [xBU,h0]
    simp only [e,xNx,h0,true_and]
    by_cases c : n.toNat < len
    ·rw [if_pos c,if_pos c]; rfl
    ·rw [if_neg c,if_neg c]; rfl
   ·have e : xBU (.int k n) = none := by simp [xBU,h0]
    simp only [e,xNx,h0,false_and,if_false,xFs]
  | _ => rfl
 | vptr cs off => cases opv F i with
  | int k n =>
   by_cases h0 : 0 ≤ n
   ·have e : xBU (.int k n) = some n.toNat := by simp [xBU,h0]
    simp only [e,xNx,h0,true_and]
    by_cases c : n.toNat < len
    ·rw [if_pos c,if_pos c]; rfl
    ·rw [if_neg c,if_neg c]; rfl
   ·have e : xBU (.int k n) = none := by simp [xBU,h0]
    simp only [e,xNx,h0,false_and,if_false,xFs]
  | _ => rfl
 | _ => rfl
def xZQ (es len : Nat) : Option (List AV) → AV → Option AV
 | some cs,.int _ i => if 0 ≤ i ∧ i.toNat < len then some (.vptr cs (i.toNat * es)) else none
 | _,_ => none
theorem xPB {es len : Nat} {cs : List AV} {k : IntKind} {i : Int} (h0 : 0 ≤ i) (h : i < len) : xZQ es len (some cs) (.int k i) = some (.vptr cs (i.toNat * es)) := if_pos ⟨h0,by omega⟩
theorem xXP (b es len : Nat) (i : Arg) : xAh R F H (.garr b es len i) = xFs H (xZQ es len (xNV b) (opv F i)) := by
 simp only [xAh]
 cases xNV b with
 | none => rfl
 | some cs => cases opv F i with
  | int k n =>
   by_cases h0 : 0 ≤ n
   ·have e : xBU (.int k n) = some n.toNat := by simp [xBU,h0]
    simp only [e,xZQ,h0,true_and]
    by_cases c : n.toNat < len
    ·rw [if_pos c,if_pos c]; rfl
    ·rw [if_neg c,if_neg c]; rfl
   ·have e : xBU (.int k n) = none := by simp [xBU,h0]
    simp only [e,xZQ,h0,false_and,if_false,xFs]
  | _ => rfl
def yCB : AV → Option AV
 | .str s => some (.int .i64 s.size)
 | _ => none
theorem xSB (s : ByteArray) : yCB (.str s) = some (.int .i64 s.size) := rfl
theorem xXQ (x : Arg) : xAh R F H (.slen x) = xFs H (yCB (opv F x)) := by
 simp only [xAh]
 cases opv F x <;> rfl
theorem yAI (g : Bool) (es len : Nat) (x i : Arg) : xBm R F H (.idx g es len x i) = xHy H (xAh R F H (.idx g es len x i)) := xDp _ rfl
theorem xUS (es len : Nat) (x i : Arg) : xBm R F H (.arrat es len x i) = xHy H (xAh R F H (.arrat es len x i)) := xDp _ rfl
theorem xXR (b es len : Nat) (i : Arg) : xBm R F H (.garr b es len i) = xHy H (xAh R F H (.garr b es len i)) := xDp _ rfl
theorem xXS (x : Arg) : xBm R F H (.slen x) = xHy H (xAh R F H (.slen x)) := xDp _ rfl
end
end Go.Abs
