/- The interpreter's equations in the form that simp walks by: one equation for each construct,told apart by what has been computed already. -/
import Derived.Test.YtkpbekcgigigkaaDoorAbsLim
namespace Go.Abs
set_option linter.unusedVariables false
set_option linter.unusedSimpArgs false
theorem xEG : ∀ (scr : List Nat) (F : List AV) (i : Nat),(xAp scr F)[i]? = if i ∈ scr then (F[i]?).map (fun _ => AV.any) else F[i]?
 | [],F,i => by simp [xAp]
 | j :: scr,F,i => by
  have := xEG scr (F.set j .any) i
  simp only [xAp,List.foldl_cons] at this ⊢
  rw [this]
  by_cases h : i = j
  ·subst h
   simp only [List.getElem?_set_self',List.mem_cons,true_or,if_true]
   cases F[i]? <;> simp
  ·have h' : ¬ j = i := fun e => h e.symm
   simp [List.getElem?_set,h,h']
theorem xQU (scr : List Nat) (F : List AV) : xAp scr (xAp scr F) = xAp scr F := by
 apply List.ext_getElem?
 intro i
 rw [xEG,xEG]
 split
 ·cases F[i]? <;> rfl
 ·rfl
section
variable {prog : Nat → Option AFunc}
theorem xWj (prog : Nat → Option AFunc) (n : Nat) : Tends (fix prog n) (fun _ => lim prog) :=
 ⟨fun f a v h => .all fun _ => xE0 ((xFm prog n).pcall f a v h),fun f a H v h => .all fun _ => xE0 ((xFm prog n).icall f a H v h),fun scr b s v h => .all fun _ => xE0 ((xFm prog n).loop scr b s v h)⟩
theorem Ev.const {p : Prop} (h : Ev fun _ => p) : p := let ⟨n,hn⟩ := h; hn n (Nat.le_refl n)
theorem xWk {α : Type} {a b : Option α} (h1 : ∀ v,a = some v → b = some v) (h2 : ∀ v,b = some v → a = some v) : a = b := by
 cases a with
 | some v => exact (h1 v rfl).symm
 | none =>
  cases b with
  | none => rfl
  | some v => exact h2 v rfl
theorem xAk {f : Nat} {fn : AFunc} (hf : prog f = some fn) (args : List AV) : (lim prog).pcall f args = xAY (lim prog) fn args := by
 refine xWk (fun v h => ?_) (fun v h => xNl hf h)
 obtain ⟨n,hn⟩ := xCn (p := fun m => (fix prog m).pcall f args) h
 have h1 : (xCX prog (fix prog n)).pcall f args = some v := hn (n + 1) (by omega)
 have h2 := (xBo (xWj prog n) prog).pcall f args v h1 |>.const
 simp only [xCX,hf] at h2
 exact h2
theorem xGU (f : AV) (args : List AV) (H : Heap) : (lim prog).icall f args H = xDp prog (lim prog) f args H := by
 refine xWk (fun v h => ?_) (fun v h => xNm h)
 obtain ⟨n,hn⟩ := xCn (p := fun m => (fix prog m).icall f args H) h
 have h1 : (xCX prog (fix prog n)).icall f args H = some v := hn (n + 1) (by omega)
 exact (xBo (xWj prog n) prog).icall f args H v h1 |>.const
theorem xE9 (scr : List Nat) (b : ACode) (s : St) : (lim prog).loop scr b s = xHY (lim prog) scr b s := by
 refine xWk (fun v h => ?_) (fun v h => xRh h)
 obtain ⟨n,hn⟩ := xCn (p := fun m => (fix prog m).loop scr b s) h
 have h1 : (xCX prog (fix prog n)).loop scr b s = some v := hn (n + 1) (by omega)
 exact (xBo (xWj prog n) prog).loop scr b s v h1 |>.const
theorem xAs {f : Nat} {fn : AFunc} (hf : prog f = some fn) (caps args : List AV) (H : Heap) : (lim prog).icall (.func f caps) args H = xBQ (lim prog) fn (args ++ caps) H := by
 rw [xGU]
 simp only [xDp,hf]
theorem xGV (l : Nat) (args : List AV) (H : Heap) : (lim prog).icall (.yield l) args H = xFA (lim prog) l args H := by
 rw [xGU]
 rfl
theorem xEU (scr : List Nat) (b : ACode) (F : List AV) (H : Heap) : (lim prog).loop scr b ⟨F,H⟩ = (lim prog).loop scr b ⟨xAp scr F,H⟩ := by
 rw [xE9,xE9]
 unfold xHY
 simp only [xQU]
def xA2 (R : Rec) (scr : List Nat) (b : ACode) : Option (AExit × St) → Option (AExit × St)
 | some (.normal,s) => R.loop scr b ⟨xAp scr s.F,s.H⟩
 | some (e,s) => some (e,⟨xAp scr s.F,s.H⟩)
 | none => none
theorem xAd (scr : List Nat) (b : ACode) (F : List AV) (H : Heap) (h : xAp scr F = F) : (lim prog).loop scr b ⟨F,H⟩ = xA2 (lim prog) scr b (run (lim prog) b ⟨F,H⟩) := by
 rw [xE9]
 unfold xHY xA2
 simp only [h]
 split
 ·rename_i s' hs
  rw [hs]
  exact xEU scr b s'.F s'.H
 ·rename_i e s' hne hs
  rw [hs]
  cases e with
  | normal => exact (hne rfl).elim
  | exit i => rfl
  | ret => rfl
 ·rename_i hs
  rw [hs]
theorem xR3 (scr : List Nat) (b : ACode) (F : List AV) (H : Heap) : run (lim prog) (.loop scr b) ⟨F,H⟩ = (lim prog).loop scr b ⟨xAp scr F,H⟩ := xEU scr b F H
end
section
variable {R : Rec} {F : List AV} {H : Heap} {s : St}
def xZ0 (R : Rec) (b : ACode) : Option (AExit × St) → Option (AExit × St)
 | some (.normal,s) => run R b s
 | r => r
theorem xWl (a b : ACode) : run R (.seq a b) s = xZ0 R b (run R a s) := by
 simp only [run,xZ0]
 split <;> simp_all
theorem xIb (b : ACode) (s : St) : xZ0 R b (some (.normal,s)) = run R b s := rfl
theorem xOI (b : ACode) (i : Nat) (s : St) : xZ0 R b (some (.exit i,s)) = some (.exit i,s) := rfl
theorem xR4 (b : ACode) (s : St) : xZ0 R b (some (.ret,s)) = some (.ret,s) := rfl
theorem xOJ (b : ACode) : xZ0 R b none = none := rfl
theorem xR5 (b : ACode) {c : Prop} [Decidable c] (x y : Option (AExit × St)) : xZ0 R b (if c then x else y) = if c then xZ0 R b x else xZ0 R b y := by split <;> rfl
def yCT (R : Rec) (a b : ACode) (s : St) : AV → Option (AExit × St)
 | .bool t => if t = true then run R a s else run R b s
 | _ => none
theorem xR6 (c : Arg) (a b : ACode) (F : List AV) (H : Heap) : run R (.cond c a b) ⟨F,H⟩ = yCT R a b ⟨F,H⟩ (opv F c) := by
 simp only [run,yCT]
 split <;> simp_all
theorem xKS (a b : ACode) (t : Bool) : yCT R a b s (.bool t) = if t = true then run R a s else run R b s := rfl
def xFN (id : Nat) : Option (AExit × St) → Option (AExit × St)
 | some (.exit i,s) => if i = id then some (.normal,s) else some (.exit i,s)
 | r => r
theorem xOK (id : Nat) (b : ACode) : run R (.block id b) s = xFN id (run R b s) := by
 simp only [run,xFN]
 split <;> simp_all
theorem xIc (id i : Nat) (s : St) : xFN id (some (.exit i,s)) = if i = id then some (.normal,s) else some (.exit i,s) := rfl
theorem xFO (id : Nat) (s : St) : xFN id (some (.normal,s)) = some (.normal,s) := rfl
theorem xKT (id : Nat) (s : St) : xFN id (some (.ret,s)) = some (.ret,s) := rfl
theorem xId (id : Nat) : xFN id none = none := rfl
theorem xKU (id : Nat) {c : Prop} [Decidable c] (x y : Option (AExit × St)) : xFN id (if c then x else y) = if c then xFN id x else xFN id y := by split <;> rfl
theorem xGW (scr : List Nat) (b : ACode) (F : List AV) (H : Heap) : xA2 R scr b (some (.normal,⟨F,H⟩)) = R.loop scr b ⟨xAp scr F,H⟩ := rfl
theorem xKV (scr : List Nat) (b : ACode) (i : Nat) (F : List AV) (H : Heap) : xA2 R scr b (some (.exit i,⟨F,H⟩)) = some (.exit i,⟨xAp scr F,H⟩) := rfl
theorem xOL (scr : List Nat) (b : ACode) (F : List AV) (H : Heap) : xA2 R scr b (some (.ret,⟨F,H⟩)) = some (.ret,⟨xAp scr F,H⟩) := rfl
theorem xOM (scr : List Nat) (b : ACode) {c : Prop} [Decidable c] (x y : Option (AExit × St)) : xA2 R scr b (if c then x else y) = if c then xA2 R scr b x else xA2 R scr b y := by split <;> rfl
def xY7 : Option St → Option (AExit × St)
 | some s => some (.normal,s)
 | none => none
theorem xON (s : St) : xY7 (some s) = some (.normal,s) := rfl
theorem xOO : xY7 none = none := rfl
theorem xR7 {c : Prop} [Decidable c] (x y : Option St) : xY7 (if c then x else y) = if c then xY7 x else xY7 y := by split <;> rfl
theorem xKW (ops : List AOper) : run R (.region ops) s = xY7 (xAn R ops s) := by
 simp only [run,xY7]
 cases xAn R ops s <;> rfl
theorem xR8 : run R .skip s = some (.normal,s) := rfl
theorem xOP : run R .label s = some (.normal,s) := rfl
theorem xR9 (i : Nat) : run R (.exit i) s = some (.exit i,s) := rfl
theorem xWm : run R .ret s = some (.ret,s) := rfl
theorem xOQ (b : ACode) : run R (.scope b) s = run R b s := rfl
theorem xOR : run R .stuck s = none := rfl
def yCU (R : Rec) (rest : List AOper) : Option St → Option St
 | some s => xAn R rest s
 | none => none
theorem xKX : xAn R [] s = some s := rfl
theorem xFa (o : AOper) (rest : List AOper) : xAn R (o :: rest) s = yCU R rest (xAu R o s) := by
 simp only [xAn,yCU]
 cases xAu R o s <;> rfl
theorem xIe (rest : List AOper) (s : St) : yCU R rest (some s) = xAn R rest s := rfl
theorem xOS (rest : List AOper) : yCU R rest none = none := rfl
theorem xSa (rest : List AOper) {c : Prop} [Decidable c] (x y : Option St) : yCU R rest (if c then x else y) = if c then yCU R rest x else yCU R rest y := by split <;> rfl
def xWn (F : List AV) (d : Option Nat) : Option (AV × Heap) → Option St
 | some (v,H) => some ⟨putA F d v,H⟩
 | none => none
theorem xWo (d : Nat) (v : AV) : xWn F (some d) (some (v,H)) = some ⟨F.set d v,H⟩ := rfl
theorem xWp (v : AV) : xWn F none (some (v,H)) = some ⟨F,H⟩ := rfl
theorem xOT (d : Option Nat) : xWn F d none = none := rfl
theorem xSb (d : Option Nat) {c : Prop} [Decidable c] (x y : Option (AV × Heap)) : xWn F d (if c then x else y) = if c then xWn F d x else xWn F d y := by split <;> rfl
theorem xOU (d : Option Nat) (op : AOp) : xAu R ⟨d,op,none⟩ ⟨F,H⟩ = xWn F d (xAa R F H op) := by
 simp only [xAu,xBW,xWn]
 cases xAa R F H op <;> rfl
def xSc (R : Rec) (d : Option Nat) (op : AOp) (w : Bool) (F : List AV) (H : Heap) : AV → Option St
 | .bool b => if b = w then xWn F d (xAa R F H op) else some ⟨putA F d (.tup []),H⟩
 | .any => none
 | _ => some ⟨putA F d (.tup []),H⟩
theorem xKY (d : Option Nat) (op : AOp) (t : Nat) (w : Bool) : xAu R ⟨d,op,some (t,w)⟩ ⟨F,H⟩ = xSc R d op w F H (F.getD t .any) := by
 simp only [xAu,xBW,xSc]
 cases F.getD t .any with
 | bool b =>
  cases b <;> cases w <;> simp [xWn] <;> cases xAa R F H op <;> rfl
 | _ => rfl
theorem xIf (d : Option Nat) (op : AOp) (w b : Bool) : xSc R d op w F H (.bool b) = if b = w then xWn F d (xAa R F H op) else some ⟨putA F d (.tup []),H⟩ := rfl
theorem xKZ (d : Option Nat) (op : AOp) (w : Bool) (vs : List AV) : xSc R d op w F H (.tup vs) = some ⟨putA F d (.tup []),H⟩ := rfl
theorem xWq (d : Nat) (v : AV) : putA F (some d) v = F.set d v := rfl
theorem xWr (v : AV) : putA F none v = F := rfl
def xQV (R : Rec) (m : Nat) (ops : List AOper) : Option St → Option (AExit × St)
 | some s => xY7 (xAn R (ops.drop m) (adopt (ops.take m) s))
 | none => none
theorem xSd (m : Nat) (ops : List AOper) : run R (.draw m ops) s = xQV R m ops (xBa R (ops.take m) s) := by
 simp only [run,xQV]
 cases xBa R (ops.take m) s with
 | none => rfl
 | some s1 =>
  simp only [xY7]
  cases xAn R (ops.drop m) (adopt (ops.take m) s1) <;> rfl
theorem xK0 (m : Nat) (ops : List AOper) (s : St) : xQV R m ops (some s) = xY7 (xAn R (ops.drop m) (adopt (ops.take m) s)) := rfl
theorem xK1 (m : Nat) (ops : List AOper) : xQV R m ops none = none := rfl
theorem xOV (m : Nat) (ops : List AOper) {c : Prop} [Decidable c] (x y : Option St) : xQV R m ops (if c then x else y) = if c then xQV R m ops x else xQV R m ops y := by split <;> rfl
def xCP (ls : List (Nat × Nat × Nat × Nat)) : Option St → Option (AExit × St)
 | some s => if ls.all (apart s.F) = true then some (.normal,s) else none
 | none => none
def xIg (R : Rec) (ls : List (Nat × Nat × Nat × Nat)) (m : Nat) (ops : List AOper) : Option St → Option (AExit × St)
 | some s => xCP ls (xAn R (ops.drop m) (adopt (ops.take m) s))
 | none => none
theorem xOW (ls : List (Nat × Nat × Nat × Nat)) (m : Nat) (ops : List AOper) : run R (.drawl ls m ops) s = xIg R ls m ops (xBa R (ops.take m) s) := by
 simp only [run,xIg]
 cases xBa R (ops.take m) s with
 | none => rfl
 | some s1 =>
  simp only [xCP]
  cases xAn R (ops.drop m) (adopt (ops.take m) s1) <;> rfl
theorem xIh (ls : List (Nat × Nat × Nat × Nat)) (m : Nat) (ops : List AOper) (s : St) : xIg R ls m ops (some s) = xCP ls (xAn R (ops.drop m) (adopt (ops.take m) s)) := rfl
theorem xIi (ls : List (Nat × Nat × Nat × Nat)) (m : Nat) (ops : List AOper) : xIg R ls m ops none = none := rfl
theorem xK2 (ls : List (Nat × Nat × Nat × Nat)) (m : Nat) (ops : List AOper) {c : Prop} [Decidable c] (x y : Option St) : xIg R ls m ops (if c then x else y) = if c then xIg R ls m ops x else xIg R ls m ops y := by split <;> rfl
theorem xIj (ls : List (Nat × Nat × Nat × Nat)) (s : St) : xCP ls (some s) = if ls.all (apart s.F) = true then some (.normal,s) else none := rfl
theorem xIk (ls : List (Nat × Nat × Nat × Nat)) : xCP ls none = none := rfl
theorem xK3 (ls : List (Nat × Nat × Nat × Nat)) {c : Prop} [Decidable c] (x y : Option St) : xCP ls (if c then x else y) = if c then xCP ls x else xCP ls y := by split <;> rfl
def xQW (R : Rec) (rest : List AOper) : Option St → Option St
 | some s => xBa R rest s
 | none => none
theorem xIl : xBa R [] s = some s := rfl
theorem xGX (o : AOper) (rest : List AOper) : xBa R (o :: rest) s = xQW R rest (xAC R o s) := by
 simp only [xBa,xQW]
 cases xAC R o s <;> rfl
theorem xK4 (rest : List AOper) (s : St) : xQW R rest (some s) = xBa R rest s := rfl
theorem xK5 (rest : List AOper) : xQW R rest none = none := rfl
theorem xOX (rest : List AOper) {c : Prop} [Decidable c] (x y : Option St) : xQW R rest (if c then x else y) = if c then xQW R rest x else xQW R rest y := by split <;> rfl
def xIm (F : List AV) (d : Option Nat) (H : Heap) : Option (AV × Heap) → Option St
 | some (v,_) => some ⟨putA F d v,H⟩
 | none => none
theorem xSe (d : Nat) (v : AV) (H' : Heap) : xIm F (some d) H (some (v,H')) = some ⟨F.set d v,H⟩ := rfl
theorem xSf (v : AV) (H' : Heap) : xIm F none H (some (v,H')) = some ⟨F,H⟩ := rfl
theorem xK6 (d : Option Nat) : xIm F d H none = none := rfl
theorem xOY (d : Option Nat) {c : Prop} [Decidable c] (x y : Option (AV × Heap)) : xIm F d H (if c then x else y) = if c then xIm F d H x else xIm F d H y := by split <;> rfl
def xAz (R : Rec) (F : List AV) (H : Heap) (op : AOp) : Option (AV × Heap) := (xAm R F H op).map fun v => (v,H)
theorem xK7 (d : Option Nat) (op : AOp) : xAC R ⟨d,op,none⟩ ⟨F,H⟩ = xIm F d H (xAz R F H op) := by
 simp only [xAC,xBW,xIm,xAz]
 cases xAm R F H op <;> rfl
def xMJ (R : Rec) (d : Option Nat) (op : AOp) (w : Bool) (F : List AV) (H : Heap) : AV → Option St
 | .bool b => if b = w then xIm F d H (xAz R F H op) else some ⟨putA F d (.tup []),H⟩
 | .any => none
 | _ => some ⟨putA F d (.tup []),H⟩
theorem xIn (d : Option Nat) (op : AOp) (t : Nat) (w : Bool) : xAC R ⟨d,op,some (t,w)⟩ ⟨F,H⟩ = xMJ R d op w F H (F.getD t .any) := by
 simp only [xAC,xBW,xMJ]
 cases F.getD t .any with
 | bool b =>
  cases b <;> cases w <;> simp [xIm,xAz] <;> cases xAm R F H op <;> rfl
 | _ => rfl
theorem xGY (d : Option Nat) (op : AOp) (w b : Bool) : xMJ R d op w F H (.bool b) = if b = w then xIm F d H (xAz R F H op) else some ⟨putA F d (.tup []),H⟩ := rfl
theorem xIo (d : Option Nat) (op : AOp) (w : Bool) (vs : List AV) : xMJ R d op w F H (.tup vs) = some ⟨putA F d (.tup []),H⟩ := rfl
def xCQ (H : Heap) : Option AV → Option (AV × Heap)
 | some v => some (v,H)
 | none => none
theorem xOZ (v : AV) : xCQ H (some v) = some (v,H) := rfl
theorem xO0 : xCQ H none = none := rfl
theorem xSg {c : Prop} [Decidable c] (x y : Option AV) : xCQ H (if c then x else y) = if c then xCQ H x else xCQ H y := by split <;> rfl
theorem yBm (x : Arg) : xAa R F H (.mov x) = some (opv F x,H) := rfl
def yCV : AV → AV → AV → Option AV
 | .bool t,a,b => some (if t = true then a else b)
 | _,_,_ => none
theorem xK8 (t : Bool) (a b : AV) : yCV (.bool t) a b = some (if t = true then a else b) := rfl
theorem xWs (c a b : Arg) : xAa R F H (.pick c a b) = xCQ H (yCV (opv F c) (opv F a) (opv F b)) := by
 simp only [xAa,yCV,xCQ]
 split <;> simp_all
theorem yBn (x : Arg) : xAa R F H (.box x) = if (opv F x).cells.all AV.isCell = true then some (.ptr H.length 0,H ++ [.cells false false (opv F x).cells]) else none := rfl
theorem xSh (z : List AV) (parts : List (Nat × Nat × Arg)) : xAa R F H (.build z parts) =
  if parts.all (fun p => (opv F p.2.2).cells.length == p.2.1) = true then xCQ H ((fillA z (parts.map fun p => (p.1,(opv F p.2.2).cells))).map AV.agg) else none := by
 simp only [xAa,xCQ]
 split
 ·cases fillA z (parts.map fun p => (p.1,(opv F p.2.2).cells)) <;> rfl
 ·rfl
def yGw (fz z : Bool) (n es : Nat) (H : Heap) : Option (List AV) → Option (AV × Heap)
 | some cs => xDR fz z n es cs H
 | none => none
theorem xO1 (fz z : Bool) (n es : Nat) (cs : List AV) : yGw fz z n es H (some cs) = xDR fz z n es cs H := rfl
theorem xSi (z : Bool) (n es : Nat) (cs : List AV) : xDR false z n es cs H = some (.own z H.length 0 n es,H ++ [.cells false z cs]) := rfl
def slK (z : Bool) (n : Nat) : Option (List AV) → Option AV
 | some cs => some (.sl z n cs)
 | none => none
theorem xSj (z : Bool) (n : Nat) (cs : List AV) : slK z n (some cs) = some (.sl z n cs) := rfl
theorem xO2 (z : Bool) (n es : Nat) (cs : List AV) : xDR true z n es cs H = if (cs.flatMap (bor frzN H)).isEmpty = true then xCQ H (slK z n (cs.mapM (frz frzN H))) else none := by
 simp only [xDR,xCQ,slK]
 split
 ·rename_i h
  cases cs.mapM (frz frzN H) <;> simp_all
 ·simp_all
theorem xO3 (fz : Bool) (z : List AV) (es n : Nat) (parts : List (Nat × Arg)) : xAa R F H (.bslice fz z es n parts) =
  if parts.all (fun p => (opv F p.2).cells.length == es) = true then yGw fz false n es H (fillA (xCB z n) (parts.map fun p => (p.1 * es,(opv F p.2).cells))) else none := by
 simp only [xAa,yGw]
 split
 ·cases fillA (xCB z n) (parts.map fun p => (p.1 * es,(opv F p.2).cells)) <;> rfl
 ·rfl
def xZ1 (g : Bool) : Option (List AV) → Option AV
 | some cs => mkv g cs
 | none => none
theorem xWt (v : AV) : xZ1 false (some [v]) = some v := rfl
theorem xWu (cs : List AV) : xZ1 true (some cs) = some (.agg cs) := rfl
theorem xWv (g : Bool) (n : Nat) (p : Arg) : xAa R F H (.load g n p) = xCQ H (xZ1 g (rd H (opv F p) n)) := by
 simp only [xAa,xCQ,xZ1]
 cases rd H (opv F p) n with
 | none => rfl
 | some cs => simp only; cases mkv g cs <;> rfl
def rdK (off n : Nat) : Option Blk → Option (List AV)
 | some (.cells _ _ cs) => if off + n ≤ cs.length then some ((cs.drop off).take n) else none
 | _ => none
theorem yBo (id off n : Nat) : rd H (.ptr id off) n = rdK off n H[id]? := by
 simp only [rd,rdK]
 rfl
theorem xO4 {off n : Nat} {fz z : Bool} {cs : List AV} (h : off + n ≤ cs.length) : rdK off n (some (.cells fz z cs)) = some ((cs.drop off).take n) := if_pos h
theorem xWw {off n : Nat} {cs : List AV} (h : off + n ≤ cs.length) : rd H (.vptr cs off) n = some ((cs.drop off).take n) := if_pos h
def wrK (H : Heap) (id off : Nat) (vs : List AV) : Option Blk → Option Heap
 | some (.cells false z cs) => if off + vs.length ≤ cs.length ∧ vs.all AV.isCell = true then some (H.set id (.cells false z (splice cs off vs))) else none
 | _ => none
theorem yBp (id off : Nat) (vs : List AV) : wr H (.ptr id off) vs = wrK H id off vs H[id]? := by
 simp only [wr,wrK]
 rfl
theorem xO5 {id off : Nat} {vs : List AV} {z : Bool} {cs : List AV} (h : off + vs.length ≤ cs.length) (h2 : vs.all AV.isCell = true) : wrK H id off vs (some (.cells false z cs)) = some (H.set id (.cells false z (splice cs off vs))) := if_pos ⟨h,h2⟩
def xWx : Option Heap → Option (AV × Heap)
 | some H => some (.tup [],H)
 | none => none
theorem xIp (H : Heap) : xWx (some H) = some (.tup [],H) := rfl
theorem xSk (n : Nat) (p v : Arg) : xAa R F H (.store n p v) = if (opv F v).cells.length = n then xWx (wr H (opv F p) (opv F v).cells) else none := by
 simp only [xAa,xWx]
 split
 ·cases wr H (opv F p) (opv F v).cells <;> rfl
 ·rfl
def yEU : AV → Option AV
 | .ptr id off => some (.ptr id off)
 | .vptr cs off => some (.vptr cs off)
 | .func f caps => some (.func f caps)
 | .yield l => some (.yield l)
 | _ => none
theorem xSl (id off : Nat) : yEU (.ptr id off) = some (.ptr id off) := rfl
theorem xO6 (cs : List AV) (off : Nat) : yEU (.vptr cs off) = some (.vptr cs off) := rfl
theorem xO7 (f : Nat) (cs : List AV) : yEU (.func f cs) = some (.func f cs) := rfl
theorem xK9 (l : Nat) : yEU (.yield l) = some (.yield l) := rfl
theorem xO8 (x : Arg) : xAa R F H (.nilchk x) = xCQ H (yEU (opv F x)) := by
 simp only [xAa]
 cases opv F x <;> rfl
theorem yBq (op : BinOp) (x y : Arg) : xAa R F H (.bin op x y) = xCQ H (xDI op (opv F x) (opv F y)) := by
 simp only [xAa,xCQ]
 cases xDI op (opv F x) (opv F y) <;> rfl
section
variable (k : IntKind) (a b : Int)
theorem xWy : xDI .add (.int k a) (.int k b) = some (.int k (k.wrap (a + b))) := by simp [xDI]
theorem xWz : xDI .sub (.int k a) (.int k b) = some (.int k (k.wrap (a - b))) := by simp [xDI]
theorem xWA : xDI .mul (.int k a) (.int k b) = some (.int k (k.wrap (a * b))) := by simp [xDI]
theorem xWB (h : b ≠ 0) : xDI .quo (.int k a) (.int k b) = some (.int k (k.wrap (a.tdiv b))) := by simp [xDI,h]
theorem xWC (h : b ≠ 0) : xDI .rem (.int k a) (.int k b) = some (.int k (a.tmod b)) := by simp [xDI,h]
theorem xWD : xDI .and (.int k a) (.int k b) = some (.int k (xJA .and k a b)) := by simp [xDI]
theorem yBr : xDI .or (.int k a) (.int k b) = some (.int k (xJA .or k a b)) := by simp [xDI]
theorem xWE : xDI .xor (.int k a) (.int k b) = some (.int k (xJA .xor k a b)) := by simp [xDI]
theorem xLa : xDI .andNot (.int k a) (.int k b) = some (.int k (xJA .andNot k a b)) := by simp [xDI]
theorem xWF (k' : IntKind) (h : 0 ≤ b) : xDI .shl (.int k a) (.int k' b) = some (.int k (k.wrap (a * 2 ^ (min b.toNat k.bits)))) := by simp only [xDI]; rw [if_neg (by omega)]
theorem xWG (k' : IntKind) (h : 0 ≤ b) : xDI .shr (.int k a) (.int k' b) = some (.int k (a.fdiv (2 ^ (min b.toNat k.bits)))) := by simp only [xDI]; rw [if_neg (by omega)]
theorem xWH : xDI .eql (.int k a) (.int k b) = some (.bool (decide (a = b))) := by simp [xDI]; rfl
theorem xWI : xDI .neq (.int k a) (.int k b) = some (.bool (!decide (a = b))) := by simp [xDI]; rfl
theorem xWJ : xDI .lss (.int k a) (.int k b) = some (.bool (decide (a < b))) := by simp [xDI]
theorem xWK : xDI .leq (.int k a) (.int k b) = some (.bool (decide (a ≤ b))) := by simp [xDI]
theorem xWL : xDI .gtr (.int k a) (.int k b) = some (.bool (decide (b < a))) := by simp [xDI]
theorem xWM : xDI .geq (.int k a) (.int k b) = some (.bool (decide (b ≤ a))) := by simp [xDI]
end
def yGx (neg : Bool) : AV → AV → Option AV
 | .bool a,.bool b => some (.bool (if neg = true then a != b else a == b))
 | _,_ => none
theorem yBs (a b : Bool) : yGx false (.bool a) (.bool b) = some (.bool (decide (a = b))) := by cases a <;> cases b <;> rfl
theorem yBt (a b : Bool) : yGx true (.bool a) (.bool b) = some (.bool (!decide (a = b))) := by cases a <;> cases b <;> rfl
theorem yBu (neg : Bool) (x y : Arg) : xAa R F H (.beq neg x y) = xCQ H (yGx neg (opv F x) (opv F y)) := by
 simp only [xAa]
 cases opv F x <;> cases opv F y <;> rfl
def xO9 (neg : Bool) : AV → Option AV
 | .sl z _ _ => some (.bool (z != neg))
 | .own z _ _ _ _ => some (.bool (z != neg))
 | _ => none
theorem xLb (z : Bool) (n : Nat) (cs : List AV) : xO9 false (.sl z n cs) = some (.bool z) := by cases z <;> rfl
theorem xLc (z : Bool) (n : Nat) (cs : List AV) : xO9 true (.sl z n cs) = some (.bool (!z)) := by cases z <;> rfl
theorem xIq (z : Bool) (id off n es : Nat) : xO9 false (.own z id off n es) = some (.bool z) := by cases z <;> rfl
theorem xIr (z : Bool) (id off n es : Nat) : xO9 true (.own z id off n es) = some (.bool (!z)) := by cases z <;> rfl
theorem xSm (neg : Bool) (x : Arg) : xAa R F H (.isnil neg x) = xCQ H (xO9 neg (opv F x)) := by
 simp only [xAa]
 cases opv F x <;> rfl
theorem yEV (op : UnOp) (x : Arg) : xAa R F H (.un op x) = xCQ H (unA op (opv F x)) := by
 simp only [xAa,xCQ]
 cases unA op (opv F x) <;> rfl
theorem yBv (b : Bool) : unA .not (.bool b) = some (.bool !b) := rfl
theorem yBw (k : IntKind) (n : Int) : unA .neg (.int k n) = some (.int k (k.wrap (0 - n))) := rfl
theorem yBx (k : IntKind) (n : Int) : unA .xor (.int k n) = some (.int k (xJA .xor k (if k.signed then -1 else k.max) n)) := rfl
def yEW (k : IntKind) : AV → Option AV
 | .int _ n => some (.int k (k.wrap n))
 | _ => none
theorem xPa (k k' : IntKind) (n : Int) : yEW k (.int k' n) = some (.int k (k.wrap n)) := rfl
theorem xWN (k : IntKind) (x : Arg) : xAa R F H (.conv k x) = xCQ H (yEW k (opv F x)) := by
 simp only [xAa]
 cases opv F x <;> rfl
theorem xPb (f : Nat) (caps : List Arg) : xAa R F H (.mkfunc f caps) = some (.func f (caps.map (opv F)),H) := rfl
def yHC (fz : Bool) (z : List AV) (bytes : Nat) (H : Heap) : AV → AV → Option (AV × Heap)
 | .int _ l,.int _ c => if 0 ≤ l ∧ l ≤ c ∧ c * bytes ≤ xBh ∧ c ≤ xBh ∧ z.all AV.isCell = true then xDR fz false l.toNat z.length (xCB z l.toNat) H else none
 | _,_ => none
theorem xSn (fz : Bool) (z : List AV) (bytes : Nat) (k k' : IntKind) {l c : Int} (h1 : 0 ≤ l) (h2 : l ≤ c) (h3 : c * bytes ≤ 140737488355328) (h4 : c ≤ 140737488355328) (h5 : z.all AV.isCell = true) : yHC fz z bytes H (.int k l) (.int k' c) = xDR fz false l.toNat z.length (xCB z l.toNat) H := if_pos ⟨h1,h2,h3,h4,h5⟩
theorem xLd (fz : Bool) (z : List AV) (bytes : Nat) (l c : Arg) : xAa R F H (.mkslice fz z bytes l c) = yHC fz z bytes H (opv F l) (opv F c) := by
 simp only [xAa]
 cases opv F l <;> cases opv F c <;> rfl
def yCW (es : Nat) (H : Heap) (x : AV) : Option (Nat × Nat) → Option AV
 | none => none
 | some (l,h) => match x with
  | .sl z _ cs => some (.sl z (h - l) ((cs.drop (l * es)).take ((h - l) * es)))
  | .own z id off _ _ => some (.own z id (off + l * es) (h - l) es)
  | _ => none
def xSo (es : Nat) (H : Heap) (lo hi mx : Option AV) : AV → Option AV
 | .sl z n cs => if cs.length = n * es then yCW es H (.sl z n cs) (xBm n lo hi mx) else none
 | .own z id off n es' => if es' = es then yCW es H (.own z id off n es') (xBm n lo hi mx) else none
 | _ => none
theorem xSp (es : Nat) (x : Arg) (lo hi mx : Option Arg) : xAa R F H (.slice es x lo hi mx) = xCQ H (xSo es H (lo.map (opv F)) (hi.map (opv F)) (mx.map (opv F)) (opv F x)) := by
 simp only [xAa,xCQ,xSo,yCW]
 cases opv F x with
 | sl z n cs =>
  simp only
  split
  ·cases xBm n (lo.map (opv F)) (hi.map (opv F)) (mx.map (opv F)) <;> rfl
  ·rfl
 | own z id off n es' =>
  simp only
  split
  ·cases xBm n (lo.map (opv F)) (hi.map (opv F)) (mx.map (opv F)) <;> rfl
  ·rfl
 | _ => rfl
theorem xPc {es n : Nat} {z : Bool} {cs : List AV} (lo hi mx : Option AV) (h : cs.length = n * es) : xSo es H lo hi mx (.sl z n cs) = yCW es H (.sl z n cs) (xBm n lo hi mx) := if_pos h
theorem xLe {es n id off : Nat} {z : Bool} (lo hi mx : Option AV) : xSo es H lo hi mx (.own z id off n es) = yCW es H (.own z id off n es) (xBm n lo hi mx) := if_pos rfl
theorem xWO (es : Nat) (z : Bool) (n : Nat) (cs : List AV) (l h : Nat) : yCW es H (.sl z n cs) (some (l,h)) = some (.sl z (h - l) ((cs.drop (l * es)).take ((h - l) * es))) := rfl
theorem xSq (es : Nat) (z : Bool) (id off n es' : Nat) (l h : Nat) : yCW es H (.own z id off n es') (some (l,h)) = some (.own z id (off + l * es) (h - l) es) := rfl
theorem xPd (n : Nat) : xBm n none none none = some (0,n) := by simp [xBm]
theorem xPe {n : Nat} {k : IntKind} {l : Int} (h0 : 0 ≤ l) (h : l ≤ n) : xBm n (some (.int k l)) none none = some (l.toNat,n) := by
 simp only [xBm,xBf,if_pos h0]
 rw [if_pos ⟨by omega,by omega⟩]
theorem xPf {n : Nat} {k : IntKind} {m : Int} (h0 : 0 ≤ m) (h : m ≤ n) : xBm n none (some (.int k m)) none = some (0,m.toNat) := by
 simp only [xBm,xBf,if_pos h0]
 rw [if_pos ⟨by omega,by omega⟩]
theorem xPg {n : Nat} {k k' : IntKind} {l m : Int} (h0 : 0 ≤ l) (h1 : l ≤ m) (h : m ≤ n) : xBm n (some (.int k l)) (some (.int k' m)) none = some (l.toNat,m.toNat) := by
 have h2 : 0 ≤ m := by omega
 simp only [xBm,xBf,if_pos h0,if_pos h2]
 rw [if_pos ⟨by omega,by omega⟩]
def xWP (o : Nat) : AV → Option AV
 | .ptr id off => some (.ptr id (off + o))
 | .vptr cs off => some (.vptr cs (off + o))
 | _ => none
theorem xLf (o id off : Nat) : xWP o (.ptr id off) = some (.ptr id (off + o)) := rfl
theorem xIs (o : Nat) (cs : List AV) (off : Nat) : xWP o (.vptr cs off) = some (.vptr cs (off + o)) := rfl
theorem xSr (o : Nat) (x : Arg) : xAa R F H (.faddr o x) = xCQ H (xWP o (opv F x)) := by
 simp only [xAa]
 cases opv F x <;> rfl
def xWQ (g : Bool) (off n : Nat) : AV → Option AV
 | .agg cs => if off + n ≤ cs.length then mkv g ((cs.drop off).take n) else none
 | _ => none
theorem xLg {g : Bool} {off n : Nat} {cs : List AV} (h : off + n ≤ cs.length) : xWQ g off n (.agg cs) = mkv g ((cs.drop off).take n) := if_pos h
theorem yEX (v : AV) : mkv false [v] = some v := rfl
theorem yEY (cs : List AV) : mkv true cs = some (.agg cs) := rfl
theorem xSs (g : Bool) (off n : Nat) (x : Arg) : xAa R F H (.field g off n x) = xCQ H (xWQ g off n (opv F x)) := by
 simp only [xAa]
 cases opv F x with
 | agg cs =>
  simp only [xWQ,xCQ]
  split
  ·cases mkv g ((cs.drop off).take n) <;> rfl
  ·rfl
 | _ => rfl
def xLh (es : Nat) : AV → AV → Option AV
 | .sl _ n cs,.int _ i => if 0 ≤ i ∧ i.toNat < n then some (.vptr cs (i.toNat * es)) else none
 | .own _ id off n es',.int _ i => if 0 ≤ i ∧ i.toNat < n ∧ es' = es then some (.ptr id (off + i.toNat * es)) else none
 | _,_ => none
theorem xPh {es n : Nat} {z : Bool} {cs : List AV} {k : IntKind} {i : Int} (h0 : 0 ≤ i) (h : i < n) : xLh es (.sl z n cs) (.int k i) = some (.vptr cs (i.toNat * es)) := if_pos ⟨h0,by omega⟩
theorem xLi {es n id off : Nat} {z : Bool} {k : IntKind} {i : Int} (h0 : 0 ≤ i) (h : i < n) : xLh es (.own z id off n es) (.int k i) = some (.ptr id (off + i.toNat * es)) := if_pos ⟨h0,by omega,rfl⟩
theorem xSt (es : Nat) (x i : Arg) : xAa R F H (.iaddr es x i) = xCQ H (xLh es (opv F x) (opv F i)) := by
 simp only [xAa]
 cases opv F x with
 | sl z n cs =>
  cases opv F i with
  | int k j =>
   simp only [xBf,xLh,xCQ]
   by_cases h : 0 ≤ j
   ·by_cases h2 : j.toNat < n <;> simp [h,h2]
   ·simp [h]
  | _ => rfl
 | own z id off n es' =>
  cases opv F i with
  | int k j =>
   simp only [xBf,xLh,xCQ]
   by_cases h : 0 ≤ j
   ·by_cases h2 : j.toNat < n
    ·by_cases h3 : es' = es <;> simp [h,h2,h3]
    ·simp [h,h2]
   ·simp [h]
  | _ => rfl
 | _ => cases opv F i <;> simp [xLh,xCQ,xBf] <;> split <;> simp_all
def yGy (i : Nat) : AV → Option AV
 | .tup vs => vs[i]?
 | _ => none
theorem xSu (i : Nat) (vs : List AV) : yGy i (.tup vs) = vs[i]? := rfl
theorem yBy (i : Nat) (x : Arg) : xAa R F H (.ext i x) = xCQ H (yGy i (opv F x)) := by
 simp only [xAa]
 cases opv F x with
 | tup vs => simp only [yGy,xCQ]; cases vs[i]? <;> rfl
 | _ => rfl
def yF5 : AV → Option AV
 | .sl _ n _ => some (.int .i64 n)
 | .own _ _ _ n _ => some (.int .i64 n)
 | _ => none
theorem xWR (z : Bool) (n : Nat) (cs : List AV) : yF5 (.sl z n cs) = some (.int .i64 n) := rfl
theorem xSv (z : Bool) (id off n es : Nat) : yF5 (.own z id off n es) = some (.int .i64 n) := rfl
theorem yBz (x : Arg) : xAa R F H (.len x) = xCQ H (yF5 (opv F x)) := by
 simp only [xAa]
 cases opv F x <;> rfl
theorem yBA (x : Arg) : xAa R F H (.cap x) = match opv F x with
 | .sl true _ _ => some (.int .i64 0,H)
 | _ => none := rfl
def yGz (neg : Bool) (n : Nat) : AV → AV → Option AV
 | .agg cs,.agg ds => if cs.length = n then (xBu cs ds).map fun b => .bool (b != neg) else none
 | _,_ => none
theorem xSw {neg : Bool} {n : Nat} {cs ds : List AV} (h : cs.length = n) : yGz neg n (.agg cs) (.agg ds) = (xBu cs ds).map fun b => .bool (b != neg) := if_pos h
theorem yBB (neg : Bool) (n : Nat) (x y : Arg) : xAa R F H (.aeq neg n x y) = xCQ H (yGz neg n (opv F x) (opv F y)) := by
 simp only [xAa]
 cases opv F x with
 | agg cs => cases opv F y with
  | agg ds =>
   simp only [yGz,xCQ]
   split
   ·cases xBu cs ds <;> rfl
   ·rfl
  | _ => rfl
 | _ => rfl
def xWS (fz : Bool) (es bytes : Nat) (H : Heap) (x : AV) : Option (Nat × List AV) → Option (AV × Heap)
 | none => none
 | some (m,ys) => match x with
  | .sl true _ _ => if m * bytes ≤ xBh ∧ m ≤ xBh then xDR fz (m == 0) m es ys H else none
  | .own z id off n es' => match H[id]? with
   | some (.cells false _ cs) => if off = 0 ∧ es' = es ∧ n * es ≤ cs.length ∧ (n + m) * bytes ≤ xBh ∧ n + m ≤ xBh then
     some (.own (z && m == 0) H.length 0 (n + m) es,H.set id .dead ++ [.cells false (z && m == 0) (cs.take (n * es) ++ ys)]) else none
   | _ => none
  | _ => none
theorem xIt (fz : Bool) (es bytes : Nat) (x y : Arg) : xAa R F H (.append fz es bytes x y) = xWS fz es bytes H (opv F x) (src H es (opv F y)) := by
 simp only [xAa,xWS]
 cases src H es (opv F y) <;> rfl
theorem xMK {fz : Bool} {es bytes n m : Nat} {cs ys : List AV} (h : m * bytes ≤ 140737488355328) (h2 : m ≤ 140737488355328) : xWS fz es bytes H (.sl true n cs) (some (m,ys)) = xDR fz (m == 0) m es ys H := if_pos ⟨h,h2⟩
def yCX (es bytes n m : Nat) (H : Heap) (z : Bool) (id : Nat) (ys : List AV) : Option Blk → Option (AV × Heap)
 | some (.cells false _ cs) => if n * es ≤ cs.length ∧ (n + m) * bytes ≤ xBh ∧ n + m ≤ xBh then
   some (.own (z && m == 0) H.length 0 (n + m) es,H.set id .dead ++ [.cells false (z && m == 0) (cs.take (n * es) ++ ys)]) else none
 | _ => none
theorem xML (fz : Bool) (es bytes n m id : Nat) (z : Bool) (ys : List AV) : xWS fz es bytes H (.own z id 0 n es) (some (m,ys)) = yCX es bytes n m H z id ys H[id]? := by
 simp only [xWS,yCX]
 split
 ·rename_i z' cs hb
  by_cases h : n * es ≤ cs.length ∧ (n + m) * bytes ≤ xBh ∧ n + m ≤ xBh
  ·rw [if_pos h,if_pos ⟨trivial,trivial,h⟩]
  ·rw [if_neg h,if_neg (fun g => h g.2.2)]
 ·rename_i hne
  cases hb : H[id]? with
  | none => rfl
  | some b => cases b with
   | cells fz z cs => cases fz with
    | false => exact (hne _ _ hb).elim
    | true => rfl
   | _ => rfl
theorem xIu {es bytes n m id : Nat} {z z' : Bool} {ys cs : List AV} (h : n * es ≤ cs.length) (h2 : (n + m) * bytes ≤ 140737488355328) (h3 : n + m ≤ 140737488355328) : yCX es bytes n m H z id ys (some (.cells false z' cs)) =
  some (.own (z && m == 0) H.length 0 (n + m) es,H.set id .dead ++ [.cells false (z && m == 0) (cs.take (n * es) ++ ys)]) := if_pos ⟨h,h2,h3⟩
theorem yBC {es n : Nat} {z : Bool} {cs : List AV} (h : cs.length = n * es) : src H es (.sl z n cs) = some (n,cs) := if_pos h
def yGA (off n es : Nat) : Option Blk → Option (Nat × List AV)
 | some (.cells _ _ cs) => if off + n * es ≤ cs.length then some (n,(cs.drop off).take (n * es)) else none
 | _ => none
theorem xWT (es n id off : Nat) (z : Bool) : src H es (.own z id off n es) = yGA off n es H[id]? := by
 simp only [src,yGA]
 cases H[id]? with
 | none => rfl
 | some b => cases b <;> simp
theorem xLj {es n off : Nat} {fz z : Bool} {cs : List AV} (h : off + n * es ≤ cs.length) : yGA off n es (some (.cells fz z cs)) = some (n,(cs.drop off).take (n * es)) := if_pos h
def xPi (z : List AV) (bytes : Nat) (H : Heap) : AV → AV → Option (AV × Heap)
 | .sl true _ _,.int _ m => if 0 ≤ m ∧ m.toNat * bytes ≤ xBh ∧ m.toNat ≤ xBh ∧ z.all AV.isCell = true then xDR false (m.toNat == 0) m.toNat z.length (xCB z m.toNat) H else none
 | _,_ => none
theorem xLk (z : List AV) (bytes : Nat) (x n : Arg) : xAa R F H (.appendz z bytes x n) = xPi z bytes H (opv F x) (opv F n) := by
 simp only [xAa]
 cases hn : opv F n with
 | int k m =>
  simp only [xBf]
  by_cases h : 0 ≤ m
  ·cases hx : opv F x with
   | sl zz nn cs => cases zz <;> simp [xPi,h]
   | _ => simp [xPi,h]
  ·cases hx : opv F x with
   | sl zz nn cs => cases zz <;> simp [xPi,h]
   | _ => simp [xPi,h]
 | _ =>
  cases hx : opv F x with
  | sl zz nn cs => cases zz <;> simp [xPi,xBf]
  | _ => simp [xPi,xBf]
theorem xPj {z : List AV} {bytes n : Nat} {cs : List AV} {k : IntKind} {m : Int} (h0 : 0 ≤ m) (h1 : m.toNat * bytes ≤ 140737488355328) (h2 : m.toNat ≤ 140737488355328) (h3 : z.all AV.isCell = true) : xPi z bytes H (.sl true n cs) (.int k m) = xDR false (m.toNat == 0) m.toNat z.length (xCB z m.toNat) H := if_pos ⟨h0,h1,h2,h3⟩
def yGB : AV → AV → Option AV
 | .int k a,.int _ b => some (.int k (max a b))
 | _,_ => none
def yGC : AV → AV → Option AV
 | .int k a,.int _ b => some (.int k (min a b))
 | _,_ => none
theorem xSx (k k' : IntKind) (a b : Int) : yGB (.int k a) (.int k' b) = some (.int k (max a b)) := rfl
theorem xSy (k k' : IntKind) (a b : Int) : yGC (.int k a) (.int k' b) = some (.int k (min a b)) := rfl
theorem xWU (x y : Arg) : xAa R F H (.maxi x y) = xCQ H (yGB (opv F x) (opv F y)) := by
 simp only [xAa]
 cases opv F x with
 | int k a => cases opv F y with
  | int k' b => simp only [yGB,xCQ]; congr 3; split <;> omega
  | _ => rfl
 | _ => rfl
theorem xWV (x y : Arg) : xAa R F H (.mini x y) = xCQ H (yGC (opv F x) (opv F y)) := by
 simp only [xAa]
 cases opv F x with
 | int k a => cases opv F y with
  | int k' b => simp only [yGC,xCQ]; congr 3; split <;> omega
  | _ => rfl
 | _ => rfl
theorem yBD (z : List AV) : xCB z 0 = [] := rfl
theorem yBE (z : List AV) : xCB z 1 = z ++ ([]) := rfl
theorem yBF (z : List AV) : xCB z 2 = z ++ (z ++ ([])) := rfl
theorem yBG (z : List AV) : xCB z 3 = z ++ (z ++ (z ++ ([]))) := rfl
theorem yBH (z : List AV) : xCB z 4 = z ++ (z ++ (z ++ (z ++ ([])))) := rfl
theorem yBI (z : List AV) : xCB z 5 = z ++ (z ++ (z ++ (z ++ (z ++ ([]))))) := rfl
theorem yBJ (z : List AV) : xCB z 6 = z ++ (z ++ (z ++ (z ++ (z ++ (z ++ ([])))))) := rfl
theorem yBK (z : List AV) : xCB z 7 = z ++ (z ++ (z ++ (z ++ (z ++ (z ++ (z ++ ([]))))))) := rfl
theorem yBL (z : List AV) : xCB z 8 = z ++ (z ++ (z ++ (z ++ (z ++ (z ++ (z ++ (z ++ ([])))))))) := rfl
theorem yBM (z : List AV) : xCB z 9 = z ++ (z ++ (z ++ (z ++ (z ++ (z ++ (z ++ (z ++ (z ++ ([]))))))))) := rfl
theorem xWW (z : List AV) : xCB z 10 = z ++ (z ++ (z ++ (z ++ (z ++ (z ++ (z ++ (z ++ (z ++ (z ++ ([])))))))))) := rfl
theorem xWX (z : List AV) : xCB z 11 = z ++ (z ++ (z ++ (z ++ (z ++ (z ++ (z ++ (z ++ (z ++ (z ++ (z ++ ([]))))))))))) := rfl
theorem xWY (z : List AV) : xCB z 12 = z ++ (z ++ (z ++ (z ++ (z ++ (z ++ (z ++ (z ++ (z ++ (z ++ (z ++ (z ++ ([])))))))))))) := rfl
theorem xIv (d : Nat) (k : IntKind) (n : Int) : frz d H (.int k n) = some (.int k n) := by cases d <;> rfl
theorem xMM (d : Nat) (b : Bool) : frz d H (.bool b) = some (.bool b) := by cases d <;> rfl
theorem xWZ (d : Nat) (b : ByteArray) : frz d H (.str b) = some (.str b) := by cases d <;> rfl
theorem xSz (d : Nat) : frz d H .nilp = some .nilp := by cases d <;> rfl
theorem xSA (d : Nat) : frz d H .nilf = some .nilf := by cases d <;> rfl
theorem xW0 (d : Nat) : frz d H .any = some .any := by cases d <;> rfl
theorem xSB (d f : Nat) : frz d H (.func f []) = some (.func f []) := by cases d <;> rfl
theorem xLl (d : Nat) (z : Bool) (n : Nat) (cs : List AV) : frz d H (.sl z n cs) = some (.sl z n cs) := by cases d <;> rfl
theorem xW1 (d : Nat) (cs : List AV) : frz (d + 1) H (.agg cs) = (cs.mapM (frz d H)).map AV.agg := rfl
theorem xW2 (d : Nat) (cs : List AV) : frz (d + 1) H (.tup cs) = (cs.mapM (frz d H)).map AV.tup := rfl
def yF6 (d : Nat) (H : Heap) (z : Bool) (off n es : Nat) : Option Blk → Option AV
 | some (.cells _ _ cs) => if off + n * es ≤ cs.length then slK z n (((cs.drop off).take (n * es)).mapM (frz d H)) else none
 | _ => none
theorem xAx (d : Nat) (z : Bool) (id off n es : Nat) : frz (d + 1) H (.own z id off n es) = yF6 d H z off n es H[id]? := by
 simp only [frz,yF6]
 cases H[id]? with
 | none => rfl
 | some b => cases b with
  | cells fz z' cs =>
   simp only
   split
   ·cases ((cs.drop off).take (n * es)).mapM (frz d H) <;> rfl
   ·rfl
  | _ => rfl
theorem xBR {d off n es : Nat} {z fz z' : Bool} {cs : List AV} (h : off + n * es ≤ cs.length) : yF6 d H z off n es (some (.cells fz z' cs)) = slK z n (((cs.drop off).take (n * es)).mapM (frz d H)) := if_pos h
theorem xGp (d : Nat) (k : IntKind) (n : Int) : bor d H (.int k n) = [] := by cases d <;> rfl
theorem xSC (d : Nat) (b : Bool) : bor d H (.bool b) = [] := by cases d <;> rfl
theorem xW3 (d : Nat) (b : ByteArray) : bor d H (.str b) = [] := by cases d <;> rfl
theorem xSD (d : Nat) : bor d H .nilp = [] := by cases d <;> rfl
theorem xSE (d : Nat) : bor d H .nilf = [] := by cases d <;> rfl
theorem xW4 (d : Nat) : bor d H .any = [] := by cases d <;> rfl
theorem xSF (d f : Nat) (cs : List AV) : bor d H (.func f cs) = [] := by cases d <;> rfl
theorem yBN (ss : List Nat) (b : ACode) (s : St) : run R (.fz ss b) s = run R b ⟨s.F,fzIds s.H (ss.flatMap fun i => bor frzN s.H (s.F.getD i .any))⟩ := rfl
def yGD (R : Rec) (i : Nat) (b : ACode) (s : St) (ids : List Nat) : Option AV → Option (AExit × St)
 | some v => run R b ⟨s.F.set i v,fzIds s.H ids⟩
 | none => none
theorem xW5 (i : Nat) (b : ACode) (s : St) : run R (.fzs i b) s = yGD R i b s (bor frzN s.H (s.F.getD i .any)) (frz frzN s.H (s.F.getD i .any)) := by
 simp only [run,yGD]
 cases frz frzN s.H (s.F.getD i .any) <;> rfl
theorem xPk (i : Nat) (b : ACode) (s : St) (ids : List Nat) (v : AV) : yGD R i b s ids (some v) = run R b ⟨s.F.set i v,fzIds s.H ids⟩ := rfl
def yGE (d : Nat) (H : Heap) (off : Nat) : Option Blk → Option AV
 | some (.cells _ _ cs) => (cs.mapM (frz d H)).map fun cs' => .vptr cs' off
 | _ => none
theorem xW6 (d i o : Nat) : frz (d + 1) H (.ptr i o) = yGE d H o H[i]? := by
 simp only [frz,yGE]
 cases H[i]? with
 | none => rfl
 | some b => cases b <;> rfl
theorem xLm (d : Nat) (o : Nat) (fz z : Bool) (cs : List AV) : yGE d H o (some (.cells fz z cs)) = (cs.mapM (frz d H)).map fun cs' => .vptr cs' o := rfl
theorem xSG (d : Nat) (cs : List AV) (o : Nat) : frz d H (.vptr cs o) = some (.vptr cs o) := by cases d <;> rfl
def yCY (d : Nat) (H : Heap) : Option Blk → List Nat
 | some (.cells _ _ cs) => cs.flatMap (bor d H)
 | _ => []
theorem xW7 (d i o : Nat) : bor (d + 1) H (.ptr i o) = i :: yCY d H H[i]? := by
 simp only [bor,yCY]
 cases H[i]? with
 | none => rfl
 | some b => cases b <;> rfl
theorem xIw (d : Nat) (fz z : Bool) (cs : List AV) : yCY d H (some (.cells fz z cs)) = cs.flatMap (bor d H) := rfl
theorem xSH (d : Nat) (cs : List AV) (o : Nat) : bor d H (.vptr cs o) = [] := by cases d <;> rfl
def yCZ : Option Blk → Bool
 | some (.cells true _ _) => true
 | _ => false
theorem xLn (i : Nat) : xGl H i = yCZ H[i]? := by
 simp only [xGl,yCZ]
 cases H[i]? with
 | none => rfl
 | some b => cases b with
  | cells fz z cs => cases fz <;> rfl
  | _ => rfl
theorem xW8 (z : Bool) (cs : List AV) : yCZ (some (.cells true z cs)) = true := rfl
theorem yBO (d : Nat) (z : Bool) (n : Nat) (cs : List AV) : bor d H (.sl z n cs) = [] := by cases d <;> rfl
theorem xW9 (d : Nat) (cs : List AV) : bor (d + 1) H (.agg cs) = cs.flatMap (bor d H) := rfl
theorem xXa (d : Nat) (cs : List AV) : bor (d + 1) H (.tup cs) = cs.flatMap (bor d H) := rfl
def yGF (d : Nat) (H : Heap) (off n es : Nat) : Option Blk → List Nat
 | some (.cells _ _ cs) => ((cs.drop off).take (n * es)).flatMap (bor d H)
 | _ => []
theorem xAO (d : Nat) (z : Bool) (id off n es : Nat) : bor (d + 1) H (.own z id off n es) = id :: yGF d H off n es H[id]? := by
 simp only [bor,yGF]
 cases H[id]? with
 | none => rfl
 | some b => cases b <;> rfl
theorem xLo (d off n es : Nat) (fz z : Bool) (cs : List AV) : yGF d H off n es (some (.cells fz z cs)) = ((cs.drop off).take (n * es)).flatMap (bor d H) := rfl
def yBP (args : List AV) (H : Heap) : Option AV → Option (AV × Heap)
 | some r => some (r,if xBL r = true then H else fzIds H (args.flatMap (bor frzN H)))
 | none => none
theorem xPl (args : List AV) (r : AV) : yBP args H (some r) = some (r,if xBL r = true then H else fzIds H (args.flatMap (bor frzN H))) := rfl
theorem xPm (args : List AV) : yBP args H none = none := rfl
theorem xSI (args : List AV) {c : Prop} [Decidable c] (x y : Option AV) : yBP args H (if c then x else y) = if c then yBP args H x else yBP args H y := by split <;> rfl
def yGG (R : Rec) (f : Nat) (args : List AV) (H : Heap) : Option (List AV) → Option (AV × Heap)
 | some args' => yBP args H (R.pcall f args')
 | none => none
theorem xPn (f : Nat) (args args' : List AV) : yGG R f args H (some args') = yBP args H (R.pcall f args') := rfl
theorem xPo (f : Nat) (args : List AV) : xBw R f args H = yGG R f args H (args.mapM (frz frzN H)) := by
 simp only [xBw,yGG]
 cases args.mapM (frz frzN H) with
 | none => rfl
 | some args' => simp only [yBP]; cases R.pcall f args' <;> rfl
theorem xXb (f : Nat) (args : List Arg) : xAa R F H (.call f args) = xBw R f (args.map (opv F)) H := rfl
theorem xSJ (f : Arg) (args : List Arg) : xAa R F H (.icall f args) = R.icall (opv F f) (args.map (opv F)) H := rfl
def yBQ (R : Rec) (args : List AV) (H : Heap) : AV → Option (AV × Heap)
 | .func g caps => xBw R g (args ++ caps) H
 | _ => none
theorem xIx (args : List AV) (g : Nat) (caps : List AV) : yBQ R args H (.func g caps) = xBw R g (args ++ caps) H := rfl
theorem xSK (f : Arg) (args : List Arg) : xAa R F H (.fcall f args) = yBQ R (args.map (opv F)) H (opv F f) := by
 simp only [xAa]
 cases opv F f <;> rfl
def xEV (args : List AV) (H : Heap) : Option (AV × Heap) → Option (AV × Heap)
 | some (r,_) => if quietCall r H args = true then some (r,H) else none
 | none => none
theorem xIy (args : List AV) (r : AV) (H' : Heap) : xEV args H (some (r,H')) = if quietCall r H args = true then some (r,H) else none := rfl
theorem xIz (args : List AV) : xEV args H none = none := rfl
theorem xLp (args : List AV) {c : Prop} [Decidable c] (x y : Option (AV × Heap)) : xEV args H (if c then x else y) = if c then xEV args H x else xEV args H y := by split <;> rfl
theorem xXc (f : Nat) (args : List Arg) : xAz R F H (.call f args) = xEV (args.map (opv F)) H (xBw R f (args.map (opv F)) H) := by
 simp only [xAz,xAm,xEV]
 cases xBw R f (args.map (opv F)) H with
 | none => rfl
 | some r => obtain ⟨r,H'⟩ := r; simp only; split <;> rfl
def xQX (R : Rec) (args : List AV) (H : Heap) : AV → Option (AV × Heap)
 | .func g caps => xEV (args ++ caps) H (xBw R g (args ++ caps) H)
 | _ => none
theorem xGZ (args : List AV) (g : Nat) (caps : List AV) : xQX R args H (.func g caps) = xEV (args ++ caps) H (xBw R g (args ++ caps) H) := rfl
theorem xSL (f : Arg) (args : List Arg) : xAz R F H (.fcall f args) = xQX R (args.map (opv F)) H (opv F f) := by
 simp only [xAz,xAm,xEV,xQX]
 cases opv F f with
 | func g caps =>
  simp only
  cases xBw R g (args.map (opv F) ++ caps) H with
  | none => rfl
  | some r => obtain ⟨r,H'⟩ := r; simp only; split <;> rfl
 | _ => rfl
theorem yBR (v : AV) : xAz R F H (.box (.c v)) = if v.cells.all AV.isCell = true then some (.any,H) else none := by
 simp only [xAz,xAm]
 split <;> rfl
def xDt (H : Heap) : Option (AV × Heap) → Option (AV × Heap)
 | some (v,_) => some (v,H)
 | none => none
theorem xPp (v : AV) (H' : Heap) : xDt H (some (v,H')) = some (v,H) := rfl
theorem xPq : xDt H none = none := rfl
theorem xSM {c : Prop} [Decidable c] (x y : Option (AV × Heap)) : xDt H (if c then x else y) = if c then xDt H x else xDt H y := by split <;> rfl
theorem xBX (op : AOp) (h : xAm R F H op = (xAa R F H op).map (·.1)) : xAz R F H op = xDt H (xAa R F H op) := by
 simp only [xAz,h,xDt]
 cases xAa R F H op <;> rfl
theorem yBS (x : Arg) : xAz R F H (.mov x) = xDt H (xAa R F H (.mov x)) := xBX _ rfl
theorem xXd (c a b : Arg) : xAz R F H (.pick c a b) = xDt H (xAa R F H (.pick c a b)) := xBX _ rfl
theorem xSN (z : List AV) (parts : List (Nat × Nat × Arg)) : xAz R F H (.build z parts) = xDt H (xAa R F H (.build z parts)) := xBX _ rfl
theorem xPr (z : List AV) (es n : Nat) (parts : List (Nat × Arg)) : xAz R F H (.bslice true z es n parts) = xDt H (xAa R F H (.bslice true z es n parts)) := xBX _ rfl
theorem xXe (g : Bool) (n : Nat) (p : Arg) : xAz R F H (.load g n p) = xDt H (xAa R F H (.load g n p)) := xBX _ rfl
theorem xPs (x : Arg) : xAz R F H (.nilchk x) = xDt H (xAa R F H (.nilchk x)) := xBX _ rfl
theorem yBT (op : BinOp) (x y : Arg) : xAz R F H (.bin op x y) = xDt H (xAa R F H (.bin op x y)) := xBX _ rfl
theorem yBU (neg : Bool) (x y : Arg) : xAz R F H (.beq neg x y) = xDt H (xAa R F H (.beq neg x y)) := xBX _ rfl
theorem xSO (neg : Bool) (x : Arg) : xAz R F H (.isnil neg x) = xDt H (xAa R F H (.isnil neg x)) := xBX _ rfl
theorem yEZ (op : UnOp) (x : Arg) : xAz R F H (.un op x) = xDt H (xAa R F H (.un op x)) := xBX _ rfl
theorem xXf (k : IntKind) (x : Arg) : xAz R F H (.conv k x) = xDt H (xAa R F H (.conv k x)) := xBX _ rfl
theorem xPt (f : Nat) (caps : List Arg) : xAz R F H (.mkfunc f caps) = xDt H (xAa R F H (.mkfunc f caps)) := xBX _ rfl
theorem xLq (z : List AV) (bytes : Nat) (l c : Arg) : xAz R F H (.mkslice true z bytes l c) = xDt H (xAa R F H (.mkslice true z bytes l c)) := xBX _ rfl
theorem xSP (es : Nat) (x : Arg) (lo hi mx : Option Arg) : xAz R F H (.slice es x lo hi mx) = xDt H (xAa R F H (.slice es x lo hi mx)) := xBX _ rfl
theorem xSQ (o : Nat) (x : Arg) : xAz R F H (.faddr o x) = xDt H (xAa R F H (.faddr o x)) := xBX _ rfl
theorem xSR (g : Bool) (off n : Nat) (x : Arg) : xAz R F H (.field g off n x) = xDt H (xAa R F H (.field g off n x)) := xBX _ rfl
theorem xSS (es : Nat) (x i : Arg) : xAz R F H (.iaddr es x i) = xDt H (xAa R F H (.iaddr es x i)) := xBX _ rfl
theorem yBV (i : Nat) (x : Arg) : xAz R F H (.ext i x) = xDt H (xAa R F H (.ext i x)) := xBX _ rfl
theorem yBW (x : Arg) : xAz R F H (.len x) = xDt H (xAa R F H (.len x)) := xBX _ rfl
theorem yBX (x : Arg) : xAz R F H (.cap x) = xDt H (xAa R F H (.cap x)) := xBX _ rfl
theorem yBY (neg : Bool) (n : Nat) (x y : Arg) : xAz R F H (.aeq neg n x y) = xDt H (xAa R F H (.aeq neg n x y)) := xBX _ rfl
theorem xXg (x y : Arg) : xAz R F H (.maxi x y) = xDt H (xAa R F H (.maxi x y)) := xBX _ rfl
theorem xXh (x y : Arg) : xAz R F H (.mini x y) = xDt H (xAa R F H (.mini x y)) := xBX _ rfl
def yC0 (es bytes : Nat) (H : Heap) (x : AV) (o : Option (Nat × List AV)) : Option (AV × Heap) := match x with
 | .sl _ _ _ => xDt H (xWS true es bytes H x o)
 | _ => none
theorem xST (es bytes : Nat) (z : Bool) (n : Nat) (cs : List AV) (o : Option (Nat × List AV)) : yC0 es bytes H (.sl z n cs) o = xDt H (xWS true es bytes H (.sl z n cs) o) := rfl
theorem xPu (es bytes : Nat) (x y : Arg) : xAz R F H (.append true es bytes x y) = yC0 es bytes H (opv F x) (src H es (opv F y)) := by
 simp only [xAz,xAm,yC0]
 cases h : opv F x with
 | sl z n cs =>
  simp only [xIt,h,xDt]
  cases xWS true es bytes H (.sl z n cs) (src H es (opv F y)) <;> rfl
 | _ => rfl
def xUx (H : Heap) : Option AV → Option (AV × Heap)
 | some v => some (v,H)
 | none => none
theorem xLr (v : AV) : xUx H (some v) = some (v,H) := rfl
def xPv (rs : List ARes) : Option (AExit × St) → Option (AV × Heap)
 | some (.normal,s) => xUx s.H (xBP rs s)
 | some (.ret,s) => xUx s.H (xBP rs s)
 | _ => none
theorem xG0 (rs : List ARes) (F : List AV) (H : Heap) : xPv rs (some (.normal,⟨F,H⟩)) = xUx H (xBP rs ⟨F,H⟩) := rfl
theorem xPw (rs : List ARes) (F : List AV) (H : Heap) : xPv rs (some (.ret,⟨F,H⟩)) = xUx H (xBP rs ⟨F,H⟩) := rfl
theorem xLs (rs : List ARes) : xPv rs none = none := rfl
theorem xPx (rs : List ARes) {c : Prop} [Decidable c] (x y : Option (AExit × St)) : xPv rs (if c then x else y) = if c then xPv rs x else xPv rs y := by split <;> rfl
def pads : Nat → List AV
 | 0 => []
 | n + 1 => .tup [] :: pads n
theorem xXi : ∀ n,List.replicate n (AV.tup []) = pads n
 | 0 => rfl
 | n + 1 => by rw [List.replicate_succ,xXi n]; rfl
theorem xCc (n : Nat) (code : ACode) (rs : List ARes) (args : List AV) : xBQ R ⟨n,code,rs⟩ args H = xPv rs (run R code ⟨args ++ pads (n - args.length),H⟩) := by
 rw [← xXi]
 simp only [xBQ,xPv,xNJ,xUx]
 cases h : run R code ⟨args ++ List.replicate (n - args.length) (.tup []),H⟩ with
 | none => rfl
 | some r =>
  obtain ⟨e,s⟩ := r
  cases e with
  | exit i => rfl
  | _ => simp only; cases xBP rs s <;> rfl
def xIA : Option (AV × Heap) → Option AV
 | some (r,H') => frz frzN H' r
 | none => none
theorem xIB (r : AV) (H' : Heap) : xIA (some (r,H')) = frz frzN H' r := rfl
theorem xIC : xIA none = none := rfl
theorem xLt {c : Prop} [Decidable c] (x y : Option (AV × Heap)) : xIA (if c then x else y) = if c then xIA x else xIA y := by split <;> rfl
theorem xAf (fn : AFunc) (args : List AV) : xAY R fn args = xIA (xBQ R fn args []) := by
 simp only [xAY,xIA]
 cases xBQ R fn args [] <;> rfl
def yC1 (g : Bool) : Option (List AV) → Option AV
 | some cs => mkv g cs
 | none => none
theorem xLu (g : Bool) (cs : List AV) : yC1 g (some cs) = mkv g cs := rfl
theorem xXj (t : Nat) : xVm ⟨F,H⟩ (.tmp t) = some (F.getD t .any) := rfl
theorem xSU (t : Nat) (g : Bool) (n : Nat) : xVm ⟨F,H⟩ (.cell t g n) = yC1 g (rd H (F.getD t .any) n) := by
 simp only [xVm,yC1]
 cases rd H (F.getD t .any) n <;> rfl
theorem xPy : xBP [] s = some (.tup []) := rfl
theorem xPz (r : ARes) : xBP [r] s = xVm s r := rfl
def yGH (s : St) (rs : List ARes) : Option AV → Option (List AV)
 | some v => (xUt s rs).map (v :: ·)
 | none => none
theorem xPA (rs : List ARes) (v : AV) : yGH s rs (some v) = (xUt s rs).map (v :: ·) := rfl
theorem xSV : xUt s [] = some [] := rfl
theorem xPB (r : ARes) (rs : List ARes) : xUt s (r :: rs) = yGH s rs (xVm s r) := by
 simp only [xUt,yGH]
 cases xVm s r <;> rfl
theorem xPC (r r' : ARes) (rs : List ARes) : xBP (r :: r' :: rs) s = (xUt s (r :: r' :: rs)).map .tup := rfl
def xFP (F : List AV) (l : Nat) : Option (AV × Heap) → Option (AExit × St)
 | some (_,H') => match H'[l]? with
  | some (.loop st pend _ _ _ _) => if st = 1 then none else some ((match pend with | none => .normal | some e => e),⟨F,H'.set l .dead⟩)
  | _ => none
 | none => none
def xXk (R : Rec) (F : List AV) (H : Heap) (ps : List Nat) (asg body : ACode) : AV → Option (AExit × St)
 | .func g caps => xFP F H.length (R.icall (.func g caps) [.yield H.length] (H ++ [.loop 0 none F ps asg body]))
 | _ => none
theorem xPD (f : Arg) (ps : List Nat) (asg body : ACode) (F : List AV) (H : Heap) : run R (.range f ps asg body) ⟨F,H⟩ = xXk R F H ps asg body (opv F f) := by
 simp only [run]
 cases opv F f with
 | func g caps =>
  simp only [xXk,xFP]
  cases R.icall (.func g caps) [.yield H.length] (H ++ [.loop 0 none F ps asg body]) with
  | none => rfl
  | some r =>
   obtain ⟨v,H'⟩ := r
   simp only
   cases H'[H.length]? with
   | none => rfl
   | some b => cases b <;> rfl
 | _ => rfl
theorem xID (ps : List Nat) (asg body : ACode) (g : Nat) (caps : List AV) : xXk R F H ps asg body (.func g caps) = xFP F H.length (R.icall (.func g caps) [.yield H.length] (H ++ [.loop 0 none F ps asg body])) := rfl
def xFQ (l : Nat) (e : AExit) (H : Heap) : Option Blk → Option (AV × Heap)
 | some (.loop 1 _ F ps asg body) => some (match e with
  | .normal => (.bool true,H.set l (.loop 0 none F ps asg body))
  | e => (.bool false,H.set l (.loop 2 (some e) F ps asg body)))
 | _ => none
def xCR (l : Nat) : Option (AExit × St) → Option (AV × Heap)
 | some (e,s) => xFQ l e s.H s.H[l]?
 | none => none
def xHl (R : Rec) (l : Nat) (body0 : ACode) (s : St) : Option Blk → Option (AV × Heap)
 | some (.loop 0 pend F ps asg body) => xCR l (run R body0 ⟨s.F,s.H.set l (.loop 1 pend F ps asg body)⟩)
 | _ => none
def xMN (R : Rec) (l : Nat) (body0 : ACode) : Option (AExit × St) → Option (AV × Heap)
 | some (.normal,s) => xHl R l body0 s s.H[l]?
 | _ => none
theorem xPE (l : Nat) (args : List AV) (H : Heap) (asg body : ACode) (F : List AV) (ps : List Nat) (pend : Option AExit) (hH : H[l]? = some (.loop 0 pend F ps asg body)) (h1 : args.length = ps.length) (h2 : asg.noRange = true) (h3 : body.noRange = true) :
  xFA R l args H = xMN R l body (run R asg ⟨(ps.zip args).foldl (fun F (p,v) => F.set p v) F,H⟩) := by
 unfold xFA
 rw [hH]
 simp only
 rw [if_pos ⟨h1,h2,h3⟩]
 cases ha : run R asg ⟨(ps.zip args).foldl (fun F (p,v) => F.set p v) F,H⟩ with
 | none => rfl
 | some r =>
  obtain ⟨e,s1⟩ := r
  cases e with
  | normal =>
   simp only [xMN]
   cases hb : s1.H[l]? with
   | none => rfl
   | some b =>
    cases b with
    | loop st pend1 F1 ps1 asg1 body1 =>
     match st with
     | 0 =>
      simp only [xHl]
      cases hr : run R body ⟨s1.F,s1.H.set l (.loop 1 pend1 F1 ps1 asg1 body1)⟩ with
      | none => rfl
      | some r =>
       obtain ⟨e,s2⟩ := r
       simp only [xCR]
       cases hc : s2.H[l]? with
       | none => rfl
       | some b =>
        cases b with
        | loop st2 pend2 F2 ps2 asg2 body2 =>
         match st2 with
         | 0 => rfl
         | 1 => rfl
         | _ + 2 => rfl
        | _ => rfl
     | _ + 1 => rfl
    | _ => rfl
  | _ => rfl
theorem xEu (l : Nat) (body0 : ACode) (F : List AV) (H : Heap) : xMN R l body0 (some (.normal,⟨F,H⟩)) = xHl R l body0 ⟨F,H⟩ H[l]? := rfl
theorem xFR (l : Nat) (body0 : ACode) (F : List AV) (H : Heap) (pend : Option AExit) (F1 : List AV) (ps : List Nat) (asg body : ACode) : xHl R l body0 ⟨F,H⟩ (some (.loop 0 pend F1 ps asg body)) = xCR l (run R body0 ⟨F,H.set l (.loop 1 pend F1 ps asg body)⟩) := rfl
theorem xEW (l : Nat) (e : AExit) (F : List AV) (H : Heap) : xCR l (some (e,⟨F,H⟩)) = xFQ l e H H[l]? := rfl
theorem xFS (l : Nat) {c : Prop} [Decidable c] (x y : Option (AExit × St)) : xCR l (if c then x else y) = if c then xCR l x else xCR l y := by split <;> rfl
theorem xEv (l : Nat) (H : Heap) (pend : Option AExit) (F : List AV) (ps : List Nat) (asg body : ACode) : xFQ l .normal H (some (.loop 1 pend F ps asg body)) = some (.bool true,H.set l (.loop 0 none F ps asg body)) := rfl
theorem xFT (l i : Nat) (H : Heap) (pend : Option AExit) (F : List AV) (ps : List Nat) (asg body : ACode) : xFQ l (.exit i) H (some (.loop 1 pend F ps asg body)) = some (.bool false,H.set l (.loop 2 (some (.exit i)) F ps asg body)) := rfl
theorem xG1 (l : Nat) (H : Heap) (pend : Option AExit) (F : List AV) (ps : List Nat) (asg body : ACode) : xFQ l .ret H (some (.loop 1 pend F ps asg body)) = some (.bool false,H.set l (.loop 2 (some .ret) F ps asg body)) := rfl
def xHm (F : List AV) (l : Nat) (H : Heap) : Option Blk → Option (AExit × St)
 | some (.loop st pend _ _ _ _) => if st = 1 then none else some ((match pend with | none => .normal | some e => e),⟨F,H.set l .dead⟩)
 | _ => none
theorem xFU (l : Nat) (v : AV) (H : Heap) : xFP F l (some (v,H)) = xHm F l H H[l]? := by
 simp only [xFP,xHm]
theorem xLv (l : Nat) (H : Heap) (F1 : List AV) (ps : List Nat) (asg body : ACode) : xHm F l H (some (.loop 0 none F1 ps asg body)) = some (.normal,⟨F,H.set l .dead⟩) := rfl
theorem xLw (l : Nat) (H : Heap) (e : AExit) (F1 : List AV) (ps : List Nat) (asg body : ACode) : xHm F l H (some (.loop 2 (some e) F1 ps asg body)) = some (e,⟨F,H.set l .dead⟩) := rfl
end
section
variable {R : Rec} {F : List AV} {H : Heap} {s : St}
def xXl : Option (AV × Heap) → Option (AV × List Blk)
 | some (r,H') => (xDc H' r).map fun (v,B) => (v,B.map (·.2))
 | none => none
theorem xCd (f : Nat) (args : List AV) : xBj R f args = xXl (R.icall (.func f []) args []) := by
 unfold xBj xXl
 cases R.icall (.func f []) args [] <;> rfl
theorem xIE (r : AV) (H' : Heap) : xXl (some (r,H')) = (xDc H' r).map fun (v,B) => (v,B.map (·.2)) := rfl
def ocK (H : Heap) (ids : List Nat) : Option (AV × List Blk) → Option (AV × Heap)
 | some (v,B) => some (xAX H.length v,fzIds H ids ++ B)
 | none => none
def xXm (R : Rec) (f : Nat) (H : Heap) (ids : List Nat) : Option (List AV) → Option (AV × Heap)
 | some args' => ocK H ids (xBj R f args')
 | none => none
theorem xSW (f : Nat) (args : List Arg) : xAa R F H (.ocall f args) = xXm R f H ((args.map (opv F)).flatMap (bor frzN H)) ((args.map (opv F)).mapM (frz frzN H)) := by
 simp only [xAa,xXm]
 cases (args.map (opv F)).mapM (frz frzN H) with
 | none => rfl
 | some args' =>
  simp only [ocK]
  cases xBj R f args' <;> rfl
theorem xIF (f : Nat) (ids : List Nat) (args' : List AV) : xXm R f H ids (some args') = ocK H ids (xBj R f args') := rfl
theorem xSX (ids : List Nat) (v : AV) (B : List Blk) : ocK H ids (some (v,B)) = some (xAX H.length v,fzIds H ids ++ B) := rfl
def yF7 (H : Heap) (ids : List Nat) : Option (AV × Heap) → Option (AV × Heap)
 | some (v,B) => some (xAX H.length v,fzIds H ids ++ B.map (xCW H.length))
 | none => none
def xQY (R : Rec) (f : Nat) (H : Heap) (ids : List Nat) : Option (List AV) → Option (AV × Heap)
 | some args' => yF7 H ids (xDS R f args')
 | none => none
theorem xIG (f : Nat) (args : List Arg) : xAa R F H (.ocallw f args) = xQY R f H ((args.map (opv F)).flatMap (bor frzN H)) ((args.map (opv F)).mapM (frz frzN H)) := by
 simp only [xAa,xQY]
 cases (args.map (opv F)).mapM (frz frzN H) with
 | none => rfl
 | some args' =>
  simp only [yF7]
  cases xDS R f args' <;> rfl
theorem xEw (f : Nat) (ids : List Nat) (args' : List AV) : xQY R f H ids (some args') = yF7 H ids (xDS R f args') := rfl
theorem xIH (ids : List Nat) (v : AV) (B : Heap) : yF7 H ids (some (v,B)) = some (xAX H.length v,fzIds H ids ++ B.map (xCW H.length)) := rfl
theorem xII {f : Nat} {args : List AV} {v : AV} {B : Heap} (h : R.icall (.func f []) args [] = some (v,B)) (h1 : xD2 v = true) : xDS R f args = some (v,B) := by
 unfold xDS
 rw [h]
 exact if_pos h1
def t1B (z : Bool) (id off n es : Nat) (B : List (Nat × Blk)) : Option Blk → Option (AV × List (Nat × Blk))
 | some (.cells false z' cs) => if cs.all xAM = true then some (.own z B.length off n es,B ++ [(id,.cells false z' cs)]) else none
 | _ => none
def t1I (z : Bool) (id off n es : Nat) (B : List (Nat × Blk)) (b : Option Blk) : Option Nat → Option (AV × List (Nat × Blk))
 | some k => some (.own z k off n es,B)
 | none => t1B z id off n es B b
theorem xPF (H : Heap) (z : Bool) (id off n es : Nat) (B : List (Nat × Blk)) : xEN H (.own z id off n es) B = t1I z id off n es B H[id]? (B.findIdx? (fun p => p.1 == id)) := by
 simp only [xEN,t1I]
 cases B.findIdx? (fun p => p.1 == id) with
 | some k => rfl
 | none =>
  simp only [t1B]
  cases H[id]? with
  | none => rfl
  | some b => cases b with
   | cells fz z' cs => cases fz <;> rfl
   | _ => rfl
theorem xXn (z : Bool) (id off n es : Nat) (B : List (Nat × Blk)) (b : Option Blk) (k : Nat) : t1I z id off n es B b (some k) = some (.own z k off n es,B) := rfl
theorem xXo (z : Bool) (id off n es : Nat) (B : List (Nat × Blk)) (z' : Bool) (cs : List AV) : t1I z id off n es B (some (.cells false z' cs)) none = if cs.all xAM = true then some (.own z B.length off n es,B ++ [(id,.cells false z' cs)]) else none := rfl
theorem xPG (H : Heap) (k : IntKind) (n : Int) (B : List (Nat × Blk)) : xEN H (.int k n) B = some (.int k n,B) := rfl
theorem xLx (H : Heap) (b : Bool) (B : List (Nat × Blk)) : xEN H (.bool b) B = some (.bool b,B) := rfl
theorem xSY (H : Heap) (z : Bool) (n : Nat) (cs : List AV) (B : List (Nat × Blk)) : xEN H (.sl z n cs) B = some (.sl z n cs,B) := rfl
theorem xPH (H : Heap) (b : ByteArray) (B : List (Nat × Blk)) : xEN H (.str b) B = some (.str b,B) := rfl
def tkL (H : Heap) (vs : List AV) : Option (AV × List (Nat × Blk)) → Option (List AV × List (Nat × Blk))
 | some (v',B') => (xHW H vs B').map fun (vs',B2) => (v' :: vs',B2)
 | none => none
theorem xPI (H : Heap) (B : List (Nat × Blk)) : xHW H [] B = some ([],B) := rfl
theorem xLy (H : Heap) (v : AV) (vs : List AV) (B : List (Nat × Blk)) : xHW H (v :: vs) B = tkL H vs (xEN H v B) := by
 simp only [xHW,tkL]
 cases xEN H v B <;> rfl
theorem xSZ (H : Heap) (vs : List AV) (v' : AV) (B' : List (Nat × Blk)) : tkL H vs (some (v',B')) = (xHW H vs B').map fun (vs',B2) => (v' :: vs',B2) := rfl
theorem xPJ (H : Heap) (cs : List AV) (B : List (Nat × Blk)) : xFx H (.agg cs) B = if cs.all AV.isCell = true then (xHW H cs B).map fun (cs',B') => (.agg cs',B') else none := rfl
theorem xPK (H : Heap) (z : Bool) (id off n es : Nat) (B : List (Nat × Blk)) : xFx H (.own z id off n es) B = xEN H (.own z id off n es) B := rfl
theorem xPL (H : Heap) (k : IntKind) (n : Int) (B : List (Nat × Blk)) : xFx H (.int k n) B = some (.int k n,B) := rfl
theorem xLz (H : Heap) (b : Bool) (B : List (Nat × Blk)) : xFx H (.bool b) B = some (.bool b,B) := rfl
theorem xS0 (H : Heap) (z : Bool) (n : Nat) (cs : List AV) (B : List (Nat × Blk)) : xFx H (.sl z n cs) B = some (.sl z n cs,B) := rfl
def yGI (H : Heap) (vs : List AV) : Option (AV × List (Nat × Blk)) → Option (List AV × List (Nat × Blk))
 | some (v',B') => (xEp H vs B').map fun (vs',B2) => (v' :: vs',B2)
 | none => none
theorem xLA (H : Heap) (B : List (Nat × Blk)) : xEp H [] B = some ([],B) := rfl
theorem xIJ (H : Heap) (v : AV) (vs : List AV) (B : List (Nat × Blk)) : xEp H (v :: vs) B = yGI H vs (xFx H v B) := by
 simp only [xEp,yGI]
 cases xFx H v B <;> rfl
theorem xPM (H : Heap) (vs : List AV) (v' : AV) (B' : List (Nat × Blk)) : yGI H vs (some (v',B')) = (xEp H vs B').map fun (vs',B2) => (v' :: vs',B2) := rfl
theorem xIK (H : Heap) (vs : List AV) : xDc H (.tup vs) = (xEp H vs []).map fun (vs',B) => (.tup vs',B) := rfl
theorem xIL (H : Heap) (cs : List AV) : xDc H (.agg cs) = xFx H (.agg cs) [] := rfl
theorem xIM (H : Heap) (z : Bool) (id off n es : Nat) : xDc H (.own z id off n es) = xEN H (.own z id off n es) [] := rfl
theorem xLB (H : Heap) (z : Bool) (n : Nat) (cs : List AV) : xDc H (.sl z n cs) = some (.sl z n cs,[]) := rfl
theorem xPN {α : Type} (p : α → Bool) : ([] : List α).findIdx? p = none := rfl
theorem xLC {α : Type} (p : α → Bool) (a : α) (l : List α) : (a :: l).findIdx? p = if p a = true then some 0 else (l.findIdx? p).map (· + 1) := by
 rw [List.findIdx?_cons]
def xXp (R : Rec) (als : List (Nat × Nat)) (ls : List (Nat × Nat × Nat × Nat)) (m : Nat) (ops : List AOper) : Option (St × List Pr) → Option (AExit × St)
 | some (s,pl) => xCP ls (xAn R (ops.drop m) (xA0 als pl s))
 | none => none
theorem xPO (als : List (Nat × Nat)) (ls : List (Nat × Nat × Nat × Nat)) (m : Nat) (ops : List AOper) : run R (.drawp als ls m ops) s = xXp R als ls m ops (xAw R (ops.take m) s) := by
 simp only [run,xXp]
 cases xAw R (ops.take m) s with
 | none => rfl
 | some r =>
  obtain ⟨s1,pl⟩ := r
  simp only [xCP]
  cases xAn R (ops.drop m) (xA0 als pl s1) <;> rfl
theorem xIN (als : List (Nat × Nat)) (ls : List (Nat × Nat × Nat × Nat)) (m : Nat) (ops : List AOper) (s : St) (pl : List Pr) : xXp R als ls m ops (some (s,pl)) = xCP ls (xAn R (ops.drop m) (xA0 als pl s)) := rfl
theorem xLD (pl : List Pr) (s : St) : xA0 [] pl s = adoptL pl s := rfl
def alK (als : List (Nat × Nat)) : St → St
 | ⟨F,H⟩ => ⟨xBT als F,H⟩
theorem xIO (p : Nat × Nat) (r : List (Nat × Nat)) (pl : List Pr) (s : St) : xA0 (p :: r) pl s = alK (p :: r) (adoptL pl s) := rfl
theorem yBZ (als : List (Nat × Nat)) (F : List AV) (H : Heap) : alK als ⟨F,H⟩ = ⟨xBT als F,H⟩ := rfl
theorem xLE (F : List AV) : xBT [] F = F := rfl
theorem xIP (d q : Nat) (r : List (Nat × Nat)) (F : List AV) : xBT ((d,q) :: r) F = xBT r (F.set d (xZz (q / 4096) (F.getD (q % 4096) .any))) := rfl
theorem xBx (v : AV) : xZz 0 v = v := rfl
theorem xBy (vs : List AV) : xZz 1 (.tup vs) = vs.getD 0 .any := rfl
theorem xBz (vs : List AV) : xZz 2 (.tup vs) = vs.getD 1 .any := rfl
theorem xBA (vs : List AV) : xZz 3 (.tup vs) = vs.getD 2 .any := rfl
theorem xBB (z : Bool) (i o n e : Nat) : xCg (.own z i o n e) = .any := rfl
theorem xBC (i o : Nat) : xCg (.ptr i o) = .any := rfl
theorem xCC (z : Bool) (n : Nat) (cs : List AV) : xCg (.sl z n cs) = .any := rfl
theorem xBD (cs : List AV) : xCg (.agg cs) = .any := rfl
theorem xBE (k : IntKind) (n : Int) : xCg (.int k n) = .any := rfl
theorem xA3 (b : Bool) : xCg (.bool b) = .any := rfl
theorem xBF (vs : List AV) : xCg (.tup vs) = .tup (vs.map xEr) := rfl
theorem xA4 (z : Bool) (i o n e : Nat) : xEr (.own z i o n e) = .any := rfl
theorem xA5 (i o : Nat) : xEr (.ptr i o) = .any := rfl
theorem xBG (z : Bool) (n : Nat) (cs : List AV) : xEr (.sl z n cs) = .any := rfl
theorem xA6 (cs : List AV) : xEr (.agg cs) = .any := rfl
theorem xA7 (k : IntKind) (n : Int) : xEr (.int k n) = .int k n := rfl
theorem xAL (b : Bool) : xEr (.bool b) = .bool b := rfl
def xXq (e : Pr) : Option (St × List Pr) → Option (St × List Pr)
 | some (s,l) => some (s,e :: l)
 | none => none
theorem xLF (e : Pr) (s : St) (l : List Pr) : xXq e (some (s,l)) = some (s,e :: l) := rfl
def xXr (R : Rec) (rest : List AOper) (s : St) : Option Nat → Option (AV × List Blk) → Option (St × List Pr)
 | some t,some (v,B) => xXq (some (t,v,B)) (xAw R rest ⟨s.F.set t (xCg v),s.H⟩)
 | _,_ => none
def xXs (R : Rec) (rest : List AOper) : Option St → Option (St × List Pr)
 | some s => xXq none (xAw R rest s)
 | none => none
theorem xIQ : xAw R [] s = some (s,[]) := rfl
theorem xG2 (o : AOper) (rest : List AOper) : xAw R (o :: rest) s = if xAt o.op = true then xXr R rest s o.dst (xDe R s.F o.op) else xXs R rest (xAC R o s) := by
 simp only [xAw]
 split
 ·cases o.dst with
  | none => rfl
  | some t => cases xDe R s.F o.op with
   | none => rfl
   | some r =>
    obtain ⟨v,B⟩ := r
    simp only [xXr]
    cases xAw R rest ⟨s.F.set t (xCg v),s.H⟩ <;> rfl
 ·cases xAC R o s with
  | none => rfl
  | some s1 =>
   simp only [xXs]
   cases xAw R rest s1 <;> rfl
theorem xIR (rest : List AOper) (t : Nat) (v : AV) (B : List Blk) : xXr R rest s (some t) (some (v,B)) = xXq (some (t,v,B)) (xAw R rest ⟨s.F.set t (xCg v),s.H⟩) := rfl
theorem xIS (rest : List AOper) (s : St) : xXs R rest (some s) = xXq none (xAw R rest s) := rfl
def yC2 : Option (AV × Heap) → Option (AV × List Blk)
 | some (v,B) => if xD2 v = true ∧ xEq B = true then some (v,B) else none
 | none => none
theorem xS1 (op : AOp) : xDe R F op = if op.args.all (fun x => xBO (opv F x)) = true then yC2 (xAa R F [] op) else none := by
 unfold xDe yC2
 split
 ·cases xAa R F [] op <;> rfl
 ·rfl
theorem xLG (v : AV) (B : Heap) : yC2 (some (v,B)) = if xD2 v = true ∧ xEq B = true then some (v,B) else none := rfl
theorem xG3 (f : Nat) (as : List Arg) : xAt (.ocall f as) = true := rfl
theorem xLH (x : Arg) : xAt (.box x) = true := rfl
theorem xIT (z : List AV) (b : Nat) (x y : Arg) : xAt (.mkslice false z b x y) = true := rfl
theorem xIU (z : List AV) (b : Nat) (x y : Arg) : xAt (.mkslice true z b x y) = false := rfl
theorem xIV (z : List AV) (es n : Nat) (ps : List (Nat × Arg)) : xAt (.bslice false z es n ps) = true := rfl
theorem xIW (z : List AV) (es n : Nat) (ps : List (Nat × Arg)) : xAt (.bslice true z es n ps) = false := rfl
theorem xIX (es b : Nat) (x y : Arg) : xAt (.append false es b x y) = true := rfl
theorem xIY (es b : Nat) (x y : Arg) : xAt (.append true es b x y) = false := rfl
theorem xIZ (z : List AV) (b : Nat) (x y : Arg) : xAt (.appendz z b x y) = true := rfl
theorem xLI (x : Arg) : xAt (.mov x) = false := rfl
theorem xI0 (x y z : Arg) : xAt (.pick x y z) = false := rfl
theorem xG4 (z : List AV) (ps : List (Nat × Nat × Arg)) : xAt (.build z ps) = false := rfl
theorem xI1 (g : Bool) (n : Nat) (x : Arg) : xAt (.load g n x) = false := rfl
theorem xFV (x : Arg) : xAt (.nilchk x) = false := rfl
theorem xLJ (op : BinOp) (x y : Arg) : xAt (.bin op x y) = false := rfl
theorem xLK (g : Bool) (x y : Arg) : xAt (.beq g x y) = false := rfl
theorem xG5 (g : Bool) (x : Arg) : xAt (.isnil g x) = false := rfl
theorem xPP (op : UnOp) (x : Arg) : xAt (.un op x) = false := rfl
theorem xI2 (k : IntKind) (x : Arg) : xAt (.conv k x) = false := rfl
theorem xFW (f : Nat) (as : List Arg) : xAt (.mkfunc f as) = false := rfl
theorem xG6 (es : Nat) (x : Arg) (a b c : Option Arg) : xAt (.slice es x a b c) = false := rfl
theorem xG7 (o : Nat) (x : Arg) : xAt (.faddr o x) = false := rfl
theorem xG8 (g : Bool) (o n : Nat) (x : Arg) : xAt (.field g o n x) = false := rfl
theorem xG9 (es : Nat) (x i : Arg) : xAt (.iaddr es x i) = false := rfl
theorem xLL (i : Nat) (x : Arg) : xAt (.ext i x) = false := rfl
theorem xLM (x : Arg) : xAt (.len x) = false := rfl
theorem xLN (x : Arg) : xAt (.cap x) = false := rfl
theorem xLO (g : Bool) (n : Nat) (x y : Arg) : xAt (.aeq g n x y) = false := rfl
theorem xI3 (f : Nat) (as : List Arg) : xAt (.call f as) = false := rfl
theorem xHa (f : Arg) (as : List Arg) : xAt (.fcall f as) = false := rfl
theorem xI4 (x y : Arg) : xAt (.maxi x y) = false := rfl
theorem xI5 (x y : Arg) : xAt (.mini x y) = false := rfl
theorem xI6 : xEq [] = true := rfl
theorem xHb (z : Bool) (cs : List AV) (B : List Blk) : xEq (.cells false z cs :: B) = (cs.all xAM && xEq B) := rfl
theorem xMO {α : Type} {f : α → AV} (h : ∀ a,xAM (f a) = true) (l : List α) : (l.map f).all xAM = true := by
 simp [List.all_eq_true,h]
end
section
variable {R : Rec} {F : List AV} {H : Heap}
def yF8 (g : Bool) (es len : Nat) : AV → AV → Option AV
 | .agg cs,.int _ i => if 0 ≤ i ∧ i.toNat < len ∧ i.toNat * es + es ≤ cs.length then mkv g ((cs.drop (i.toNat * es)).take es) else none
 | _,_ => none
theorem xS2 {g : Bool} {es len : Nat} {cs : List AV} {k : IntKind} {i : Int} (h0 : 0 ≤ i) (h : i < len) (h2 : i.toNat * es + es ≤ cs.length) : yF8 g es len (.agg cs) (.int k i) = mkv g ((cs.drop (i.toNat * es)).take es) := if_pos ⟨h0,by omega,h2⟩
theorem yB0 (g : Bool) (es len : Nat) (x i : Arg) : xAa R F H (.idx g es len x i) = xCQ H (yF8 g es len (opv F x) (opv F i)) := by
 simp only [xAa]
 cases opv F x with
 | agg cs => cases opv F i with
  | int k n =>
   by_cases h0 : 0 ≤ n
   ·have e : xBf (.int k n) = some n.toNat := by simp [xBf,h0]
    simp only [e,yF8,h0,true_and]
    by_cases c : n.toNat < len ∧ n.toNat * es + es ≤ cs.length
    ·rw [if_pos c,if_pos c]
     cases mkv g ((cs.drop (n.toNat * es)).take es) <;> rfl
    ·rw [if_neg c,if_neg c]; rfl
   ·have e : xBf (.int k n) = none := by simp [xBf,h0]
    simp only [e,yF8,h0,false_and,if_false,xCQ]
  | _ => rfl
 | _ => rfl
def xI7 (es len : Nat) : AV → AV → Option AV
 | .ptr id off,.int _ i => if 0 ≤ i ∧ i.toNat < len then some (.ptr id (off + i.toNat * es)) else none
 | .vptr cs off,.int _ i => if 0 ≤ i ∧ i.toNat < len then some (.vptr cs (off + i.toNat * es)) else none
 | _,_ => none
theorem xLP {es len id off : Nat} {k : IntKind} {i : Int} (h0 : 0 ≤ i) (h : i < len) : xI7 es len (.ptr id off) (.int k i) = some (.ptr id (off + i.toNat * es)) := if_pos ⟨h0,by omega⟩
theorem xI8 {es len off : Nat} {cs : List AV} {k : IntKind} {i : Int} (h0 : 0 ≤ i) (h : i < len) : xI7 es len (.vptr cs off) (.int k i) = some (.vptr cs (off + i.toNat * es)) := if_pos ⟨h0,by omega⟩
theorem xS3 (es len : Nat) (x i : Arg) : xAa R F H (.arrat es len x i) = xCQ H (xI7 es len (opv F x) (opv F i)) := by
 simp only [xAa]
 cases opv F x with
 | ptr id off => cases opv F i with
  | int k n =>
   by_cases h0 : 0 ≤ n
   ·have e : xBf (.int k n) = some n.toNat := by simp [xBf,h0]
    simp only [e,xI7,h0,true_and]
    by_cases c : n.toNat < len
    ·rw [if_pos c,if_pos c]; rfl
    ·rw [if_neg c,if_neg c]; rfl
   ·have e : xBf (.int k n) = none := by simp [xBf,h0]
    simp only [e,xI7,h0,false_and,if_false,xCQ]
  | _ => rfl
 | vptr cs off => cases opv F i with
  | int k n =>
   by_cases h0 : 0 ≤ n
   ·have e : xBf (.int k n) = some n.toNat := by simp [xBf,h0]
    simp only [e,xI7,h0,true_and]
    by_cases c : n.toNat < len
    ·rw [if_pos c,if_pos c]; rfl
    ·rw [if_neg c,if_neg c]; rfl
   ·have e : xBf (.int k n) = none := by simp [xBf,h0]
    simp only [e,xI7,h0,false_and,if_false,xCQ]
  | _ => rfl
 | _ => rfl
def xZ2 (es len : Nat) : Option (List AV) → AV → Option AV
 | some cs,.int _ i => if 0 ≤ i ∧ i.toNat < len then some (.vptr cs (i.toNat * es)) else none
 | _,_ => none
theorem xLQ {es len : Nat} {cs : List AV} {k : IntKind} {i : Int} (h0 : 0 ≤ i) (h : i < len) : xZ2 es len (some cs) (.int k i) = some (.vptr cs (i.toNat * es)) := if_pos ⟨h0,by omega⟩
theorem xXt (b es len : Nat) (i : Arg) : xAa R F H (.garr b es len i) = xCQ H (xZ2 es len (xUp b) (opv F i)) := by
 simp only [xAa]
 cases xUp b with
 | none => rfl
 | some cs => cases opv F i with
  | int k n =>
   by_cases h0 : 0 ≤ n
   ·have e : xBf (.int k n) = some n.toNat := by simp [xBf,h0]
    simp only [e,xZ2,h0,true_and]
    by_cases c : n.toNat < len
    ·rw [if_pos c,if_pos c]; rfl
    ·rw [if_neg c,if_neg c]; rfl
   ·have e : xBf (.int k n) = none := by simp [xBf,h0]
    simp only [e,xZ2,h0,false_and,if_false,xCQ]
  | _ => rfl
def yE0 : AV → Option AV
 | .str s => some (.int .i64 s.size)
 | _ => none
theorem xPQ (s : ByteArray) : yE0 (.str s) = some (.int .i64 s.size) := rfl
theorem xXu (x : Arg) : xAa R F H (.slen x) = xCQ H (yE0 (opv F x)) := by
 simp only [xAa]
 cases opv F x <;> rfl
theorem yB1 (g : Bool) (es len : Nat) (x i : Arg) : xAz R F H (.idx g es len x i) = xDt H (xAa R F H (.idx g es len x i)) := xBX _ rfl
theorem xS4 (es len : Nat) (x i : Arg) : xAz R F H (.arrat es len x i) = xDt H (xAa R F H (.arrat es len x i)) := xBX _ rfl
theorem xXv (b es len : Nat) (i : Arg) : xAz R F H (.garr b es len i) = xDt H (xAa R F H (.garr b es len i)) := xBX _ rfl
theorem xXw (x : Arg) : xAz R F H (.slen x) = xDt H (xAa R F H (.slen x)) := xBX _ rfl
end
end Go.Abs
