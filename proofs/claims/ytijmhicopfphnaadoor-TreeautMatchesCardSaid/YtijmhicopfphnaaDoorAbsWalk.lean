/- The interpreter's equations in the form that simp walks by: one equation for each construct,told apart by what has been computed already. -/
import Derived.Test.YtijmhicopfphnaaDoorAbsLim
namespace Go.Abs
set_option linter.unusedVariables false
set_option linter.unusedSimpArgs false
theorem xFj : ∀ (scr : List Nat) (F : List AV) (i : Nat),(xBd scr F)[i]? = if i ∈ scr then (F[i]?).map (fun _ => AV.any) else F[i]?
 | [],F,i => by simp [xBd]
 | j :: scr,F,i => by
  have := xFj scr (F.set j .any) i
  simp only [xBd,List.foldl_cons] at this ⊢
  rw [this]
  by_cases h : i = j
  ·subst h
   simp only [List.getElem?_set_self',List.mem_cons,true_or,if_true]
   cases F[i]? <;> simp
  ·have h' : ¬ j = i := fun e => h e.symm
   simp [List.getElem?_set,h,h']
theorem xQD (scr : List Nat) (F : List AV) : xBd scr (xBd scr F) = xBd scr F := by
 apply List.ext_getElem?
 intro i
 rw [xFj,xFj]
 split
 ·cases F[i]? <;> rfl
 ·rfl
section
variable {prog : Nat → Option AFunc}
theorem xVE (prog : Nat → Option AFunc) (n : Nat) : Tends (fix prog n) (fun _ => lim prog) :=
 ⟨fun f a v h => .all fun _ => xFC ((xFS prog n).pcall f a v h),fun f a H v h => .all fun _ => xFC ((xFS prog n).icall f a H v h),fun scr b s v h => .all fun _ => xFC ((xFS prog n).loop scr b s v h)⟩
theorem Ev.const {p : Prop} (h : Ev fun _ => p) : p := let ⟨n,hn⟩ := h; hn n (Nat.le_refl n)
theorem xVF {α : Type} {a b : Option α} (h1 : ∀ v,a = some v → b = some v) (h2 : ∀ v,b = some v → a = some v) : a = b := by
 cases a with
 | some v => exact (h1 v rfl).symm
 | none =>
  cases b with
  | none => rfl
  | some v => exact h2 v rfl
theorem xAO {f : Nat} {fn : AFunc} (hf : prog f = some fn) (args : List AV) : (lim prog).pcall f args = xBo (lim prog) fn args := by
 refine xVF (fun v h => ?_) (fun v h => xMH hf h)
 obtain ⟨n,hn⟩ := xC1 (p := fun m => (fix prog m).pcall f args) h
 have h1 : (xDA prog (fix prog n)).pcall f args = some v := hn (n + 1) (by omega)
 have h2 := (xB3 (xVE prog n) prog).pcall f args v h1 |>.const
 simp only [xDA,hf] at h2
 exact h2
theorem xOy (f : AV) (args : List AV) (H : Heap) : (lim prog).icall f args H = xD1 prog (lim prog) f args H := by
 refine xVF (fun v h => ?_) (fun v h => xMI h)
 obtain ⟨n,hn⟩ := xC1 (p := fun m => (fix prog m).icall f args H) h
 have h1 : (xDA prog (fix prog n)).icall f args H = some v := hn (n + 1) (by omega)
 exact (xB3 (xVE prog n) prog).icall f args H v h1 |>.const
theorem xFJ (scr : List Nat) (b : ACode) (s : St) : (lim prog).loop scr b s = xH9 (lim prog) scr b s := by
 refine xVF (fun v h => ?_) (fun v h => xQW h)
 obtain ⟨n,hn⟩ := xC1 (p := fun m => (fix prog m).loop scr b s) h
 have h1 : (xDA prog (fix prog n)).loop scr b s = some v := hn (n + 1) (by omega)
 exact (xB3 (xVE prog n) prog).loop scr b s v h1 |>.const
theorem xA6 {f : Nat} {fn : AFunc} (hf : prog f = some fn) (caps args : List AV) (H : Heap) : (lim prog).icall (.func f caps) args H = xB6 (lim prog) fn (args ++ caps) H := by
 rw [xOy]
 simp only [xD1,hf]
theorem xFv (scr : List Nat) (b : ACode) (F : List AV) (H : Heap) : (lim prog).loop scr b ⟨F,H⟩ = (lim prog).loop scr b ⟨xBd scr F,H⟩ := by
 rw [xFJ,xFJ]
 unfold xH9
 simp only [xQD]
def xBK (R : Rec) (scr : List Nat) (b : ACode) : Option (AExit × St) → Option (AExit × St)
 | some (.normal,s) => R.loop scr b ⟨xBd scr s.F,s.H⟩
 | some (e,s) => some (e,⟨xBd scr s.F,s.H⟩)
 | none => none
theorem xAK (scr : List Nat) (b : ACode) (F : List AV) (H : Heap) (h : xBd scr F = F) : (lim prog).loop scr b ⟨F,H⟩ = xBK (lim prog) scr b (run (lim prog) b ⟨F,H⟩) := by
 rw [xFJ]
 unfold xH9 xBK
 simp only [h]
 split
 ·rename_i s' hs
  rw [hs]
  exact xFv scr b s'.F s'.H
 ·rename_i e s' hne hs
  rw [hs]
  cases e with
  | normal => exact (hne rfl).elim
  | exit i => rfl
  | ret => rfl
 ·rename_i hs
  rw [hs]
theorem xRJ (scr : List Nat) (b : ACode) (F : List AV) (H : Heap) : run (lim prog) (.loop scr b) ⟨F,H⟩ = (lim prog).loop scr b ⟨xBd scr F,H⟩ := xFv scr b F H
end
section
variable {R : Rec} {F : List AV} {H : Heap} {s : St}
def xZf (R : Rec) (b : ACode) : Option (AExit × St) → Option (AExit × St)
 | some (.normal,s) => run R b s
 | r => r
theorem xVG (a b : ACode) : run R (.seq a b) s = xZf R b (run R a s) := by
 simp only [run,xZf]
 split <;> simp_all
theorem xIv (b : ACode) (s : St) : xZf R b (some (.normal,s)) = run R b s := rfl
theorem xOz (b : ACode) (i : Nat) (s : St) : xZf R b (some (.exit i,s)) = some (.exit i,s) := rfl
theorem xRK (b : ACode) (s : St) : xZf R b (some (.ret,s)) = some (.ret,s) := rfl
theorem xOA (b : ACode) : xZf R b none = none := rfl
theorem xRL (b : ACode) {c : Prop} [Decidable c] (x y : Option (AExit × St)) : xZf R b (if c then x else y) = if c then xZf R b x else xZf R b y := by split <;> rfl
def yCd (R : Rec) (a b : ACode) (s : St) : AV → Option (AExit × St)
 | .bool t => if t = true then run R a s else run R b s
 | _ => none
theorem xRM (c : Arg) (a b : ACode) (F : List AV) (H : Heap) : run R (.cond c a b) ⟨F,H⟩ = yCd R a b ⟨F,H⟩ (opv F c) := by
 simp only [run,yCd]
 split <;> simp_all
theorem xKJ (a b : ACode) (t : Bool) : yCd R a b s (.bool t) = if t = true then run R a s else run R b s := rfl
def xGd (id : Nat) : Option (AExit × St) → Option (AExit × St)
 | some (.exit i,s) => if i = id then some (.normal,s) else some (.exit i,s)
 | r => r
theorem xOB (id : Nat) (b : ACode) : run R (.block id b) s = xGd id (run R b s) := by
 simp only [run,xGd]
 split <;> simp_all
theorem xIw (id i : Nat) (s : St) : xGd id (some (.exit i,s)) = if i = id then some (.normal,s) else some (.exit i,s) := rfl
theorem xGe (id : Nat) (s : St) : xGd id (some (.normal,s)) = some (.normal,s) := rfl
theorem xKK (id : Nat) (s : St) : xGd id (some (.ret,s)) = some (.ret,s) := rfl
theorem xIx (id : Nat) : xGd id none = none := rfl
theorem xKL (id : Nat) {c : Prop} [Decidable c] (x y : Option (AExit × St)) : xGd id (if c then x else y) = if c then xGd id x else xGd id y := by split <;> rfl
theorem xG8 (scr : List Nat) (b : ACode) (F : List AV) (H : Heap) : xBK R scr b (some (.normal,⟨F,H⟩)) = R.loop scr b ⟨xBd scr F,H⟩ := rfl
theorem xKM (scr : List Nat) (b : ACode) (i : Nat) (F : List AV) (H : Heap) : xBK R scr b (some (.exit i,⟨F,H⟩)) = some (.exit i,⟨xBd scr F,H⟩) := rfl
theorem xOC (scr : List Nat) (b : ACode) (F : List AV) (H : Heap) : xBK R scr b (some (.ret,⟨F,H⟩)) = some (.ret,⟨xBd scr F,H⟩) := rfl
theorem xOD (scr : List Nat) (b : ACode) {c : Prop} [Decidable c] (x y : Option (AExit × St)) : xBK R scr b (if c then x else y) = if c then xBK R scr b x else xBK R scr b y := by split <;> rfl
def xX8 : Option St → Option (AExit × St)
 | some s => some (.normal,s)
 | none => none
theorem xOE (s : St) : xX8 (some s) = some (.normal,s) := rfl
theorem xOF : xX8 none = none := rfl
theorem xRN {c : Prop} [Decidable c] (x y : Option St) : xX8 (if c then x else y) = if c then xX8 x else xX8 y := by split <;> rfl
theorem xKN (ops : List AOper) : run R (.region ops) s = xX8 (xA9 R ops s) := by
 simp only [run,xX8]
 cases xA9 R ops s <;> rfl
theorem xRO : run R .skip s = some (.normal,s) := rfl
theorem xOG : run R .label s = some (.normal,s) := rfl
theorem xRP (i : Nat) : run R (.exit i) s = some (.exit i,s) := rfl
theorem xVH : run R .ret s = some (.ret,s) := rfl
theorem xOH (b : ACode) : run R (.scope b) s = run R b s := rfl
theorem xOI : run R .stuck s = none := rfl
def yCe (R : Rec) (rest : List AOper) : Option St → Option St
 | some s => xA9 R rest s
 | none => none
theorem xKO : xA9 R [] s = some s := rfl
theorem xIy (o : AOper) (rest : List AOper) : xA9 R (o :: rest) s = yCe R rest (xBt R o s) := by
 simp only [xA9,yCe]
 cases xBt R o s <;> rfl
theorem xOJ (rest : List AOper) (s : St) : yCe R rest (some s) = xA9 R rest s := rfl
theorem xOK (rest : List AOper) : yCe R rest none = none := rfl
theorem xRQ (rest : List AOper) {c : Prop} [Decidable c] (x y : Option St) : yCe R rest (if c then x else y) = if c then yCe R rest x else yCe R rest y := by split <;> rfl
def xVI (F : List AV) (d : Option Nat) : Option (AV × Heap) → Option St
 | some (v,H) => some ⟨putA F d v,H⟩
 | none => none
theorem xVJ (d : Nat) (v : AV) : xVI F (some d) (some (v,H)) = some ⟨F.set d v,H⟩ := rfl
theorem xVK (v : AV) : xVI F none (some (v,H)) = some ⟨F,H⟩ := rfl
theorem xOL (d : Option Nat) : xVI F d none = none := rfl
theorem xRR (d : Option Nat) {c : Prop} [Decidable c] (x y : Option (AV × Heap)) : xVI F d (if c then x else y) = if c then xVI F d x else xVI F d y := by split <;> rfl
theorem xOM (d : Option Nat) (op : AOp) : xBt R ⟨d,op,none⟩ ⟨F,H⟩ = xVI F d (xAg R F H op) := by
 simp only [xBt,xCt,xVI]
 cases xAg R F H op <;> rfl
def xRS (R : Rec) (d : Option Nat) (op : AOp) (w : Bool) (F : List AV) (H : Heap) : AV → Option St
 | .bool b => if b = w then xVI F d (xAg R F H op) else some ⟨putA F d (.tup []),H⟩
 | .any => none
 | _ => some ⟨putA F d (.tup []),H⟩
theorem xKP (d : Option Nat) (op : AOp) (t : Nat) (w : Bool) : xBt R ⟨d,op,some (t,w)⟩ ⟨F,H⟩ = xRS R d op w F H (F.getD t .any) := by
 simp only [xBt,xCt,xRS]
 cases F.getD t .any with
 | bool b =>
  cases b <;> cases w <;> simp [xVI] <;> cases xAg R F H op <;> rfl
 | _ => rfl
theorem xIz (d : Option Nat) (op : AOp) (w b : Bool) : xRS R d op w F H (.bool b) = if b = w then xVI F d (xAg R F H op) else some ⟨putA F d (.tup []),H⟩ := rfl
theorem xKQ (d : Option Nat) (op : AOp) (w : Bool) (vs : List AV) : xRS R d op w F H (.tup vs) = some ⟨putA F d (.tup []),H⟩ := rfl
theorem xVL (d : Nat) (v : AV) : putA F (some d) v = F.set d v := rfl
theorem xVM (v : AV) : putA F none v = F := rfl
def xQE (R : Rec) (m : Nat) (ops : List AOper) : Option St → Option (AExit × St)
 | some s => xX8 (xA9 R (ops.drop m) (adopt (ops.take m) s))
 | none => none
theorem xRT (m : Nat) (ops : List AOper) : run R (.draw m ops) s = xQE R m ops (xBO R (ops.take m) s) := by
 simp only [run,xQE]
 cases xBO R (ops.take m) s with
 | none => rfl
 | some s1 =>
  simp only [xX8]
  cases xA9 R (ops.drop m) (adopt (ops.take m) s1) <;> rfl
theorem xKR (m : Nat) (ops : List AOper) (s : St) : xQE R m ops (some s) = xX8 (xA9 R (ops.drop m) (adopt (ops.take m) s)) := rfl
theorem xKS (m : Nat) (ops : List AOper) : xQE R m ops none = none := rfl
theorem xON (m : Nat) (ops : List AOper) {c : Prop} [Decidable c] (x y : Option St) : xQE R m ops (if c then x else y) = if c then xQE R m ops x else xQE R m ops y := by split <;> rfl
def xE0 (ls : List (Nat × Nat × Nat × Nat)) : Option St → Option (AExit × St)
 | some s => if ls.all (apart s.F) = true then some (.normal,s) else none
 | none => none
def xIA (R : Rec) (ls : List (Nat × Nat × Nat × Nat)) (m : Nat) (ops : List AOper) : Option St → Option (AExit × St)
 | some s => xE0 ls (xA9 R (ops.drop m) (adopt (ops.take m) s))
 | none => none
theorem xOO (ls : List (Nat × Nat × Nat × Nat)) (m : Nat) (ops : List AOper) : run R (.drawl ls m ops) s = xIA R ls m ops (xBO R (ops.take m) s) := by
 simp only [run,xIA]
 cases xBO R (ops.take m) s with
 | none => rfl
 | some s1 =>
  simp only [xE0]
  cases xA9 R (ops.drop m) (adopt (ops.take m) s1) <;> rfl
theorem xIB (ls : List (Nat × Nat × Nat × Nat)) (m : Nat) (ops : List AOper) (s : St) : xIA R ls m ops (some s) = xE0 ls (xA9 R (ops.drop m) (adopt (ops.take m) s)) := rfl
theorem xIC (ls : List (Nat × Nat × Nat × Nat)) (m : Nat) (ops : List AOper) : xIA R ls m ops none = none := rfl
theorem xKT (ls : List (Nat × Nat × Nat × Nat)) (m : Nat) (ops : List AOper) {c : Prop} [Decidable c] (x y : Option St) : xIA R ls m ops (if c then x else y) = if c then xIA R ls m ops x else xIA R ls m ops y := by split <;> rfl
theorem xID (ls : List (Nat × Nat × Nat × Nat)) (s : St) : xE0 ls (some s) = if ls.all (apart s.F) = true then some (.normal,s) else none := rfl
theorem xIE (ls : List (Nat × Nat × Nat × Nat)) : xE0 ls none = none := rfl
theorem xKU (ls : List (Nat × Nat × Nat × Nat)) {c : Prop} [Decidable c] (x y : Option St) : xE0 ls (if c then x else y) = if c then xE0 ls x else xE0 ls y := by split <;> rfl
def xQF (R : Rec) (rest : List AOper) : Option St → Option St
 | some s => xBO R rest s
 | none => none
theorem xIF : xBO R [] s = some s := rfl
theorem xG9 (o : AOper) (rest : List AOper) : xBO R (o :: rest) s = xQF R rest (xBq R o s) := by
 simp only [xBO,xQF]
 cases xBq R o s <;> rfl
theorem xKV (rest : List AOper) (s : St) : xQF R rest (some s) = xBO R rest s := rfl
theorem xKW (rest : List AOper) : xQF R rest none = none := rfl
theorem xOP (rest : List AOper) {c : Prop} [Decidable c] (x y : Option St) : xQF R rest (if c then x else y) = if c then xQF R rest x else xQF R rest y := by split <;> rfl
def xIG (F : List AV) (d : Option Nat) (H : Heap) : Option (AV × Heap) → Option St
 | some (v,_) => some ⟨putA F d v,H⟩
 | none => none
theorem xRU (d : Nat) (v : AV) (H' : Heap) : xIG F (some d) H (some (v,H')) = some ⟨F.set d v,H⟩ := rfl
theorem xRV (v : AV) (H' : Heap) : xIG F none H (some (v,H')) = some ⟨F,H⟩ := rfl
theorem xKX (d : Option Nat) : xIG F d H none = none := rfl
theorem xOQ (d : Option Nat) {c : Prop} [Decidable c] (x y : Option (AV × Heap)) : xIG F d H (if c then x else y) = if c then xIG F d H x else xIG F d H y := by split <;> rfl
def xBu (R : Rec) (F : List AV) (H : Heap) (op : AOp) : Option (AV × Heap) := (xA7 R F H op).map fun v => (v,H)
theorem xKY (d : Option Nat) (op : AOp) : xBq R ⟨d,op,none⟩ ⟨F,H⟩ = xIG F d H (xBu R F H op) := by
 simp only [xBq,xCt,xIG,xBu]
 cases xA7 R F H op <;> rfl
def xMl (R : Rec) (d : Option Nat) (op : AOp) (w : Bool) (F : List AV) (H : Heap) : AV → Option St
 | .bool b => if b = w then xIG F d H (xBu R F H op) else some ⟨putA F d (.tup []),H⟩
 | .any => none
 | _ => some ⟨putA F d (.tup []),H⟩
theorem xIH (d : Option Nat) (op : AOp) (t : Nat) (w : Bool) : xBq R ⟨d,op,some (t,w)⟩ ⟨F,H⟩ = xMl R d op w F H (F.getD t .any) := by
 simp only [xBq,xCt,xMl]
 cases F.getD t .any with
 | bool b =>
  cases b <;> cases w <;> simp [xIG,xBu] <;> cases xA7 R F H op <;> rfl
 | _ => rfl
theorem xHa (d : Option Nat) (op : AOp) (w b : Bool) : xMl R d op w F H (.bool b) = if b = w then xIG F d H (xBu R F H op) else some ⟨putA F d (.tup []),H⟩ := rfl
theorem xII (d : Option Nat) (op : AOp) (w : Bool) (vs : List AV) : xMl R d op w F H (.tup vs) = some ⟨putA F d (.tup []),H⟩ := rfl
def xDi (H : Heap) : Option AV → Option (AV × Heap)
 | some v => some (v,H)
 | none => none
theorem xOR (v : AV) : xDi H (some v) = some (v,H) := rfl
theorem xOS : xDi H none = none := rfl
theorem xRW {c : Prop} [Decidable c] (x y : Option AV) : xDi H (if c then x else y) = if c then xDi H x else xDi H y := by split <;> rfl
theorem yAp (x : Arg) : xAg R F H (.mov x) = some (opv F x,H) := rfl
def yCf : AV → AV → AV → Option AV
 | .bool t,a,b => some (if t = true then a else b)
 | _,_,_ => none
theorem xKZ (t : Bool) (a b : AV) : yCf (.bool t) a b = some (if t = true then a else b) := rfl
theorem xVN (c a b : Arg) : xAg R F H (.pick c a b) = xDi H (yCf (opv F c) (opv F a) (opv F b)) := by
 simp only [xAg,yCf,xDi]
 split <;> simp_all
theorem yAq (x : Arg) : xAg R F H (.box x) = if (opv F x).cells.all AV.isCell = true then some (.ptr H.length 0,H ++ [.cells false false (opv F x).cells]) else none := rfl
theorem xRX (z : List AV) (parts : List (Nat × Nat × Arg)) : xAg R F H (.build z parts) =
  if parts.all (fun p => (opv F p.2.2).cells.length == p.2.1) = true then xDi H ((fillA z (parts.map fun p => (p.1,(opv F p.2.2).cells))).map AV.agg) else none := by
 simp only [xAg,xDi]
 split
 ·cases fillA z (parts.map fun p => (p.1,(opv F p.2.2).cells)) <;> rfl
 ·rfl
def yFp (fz z : Bool) (n es : Nat) (H : Heap) : Option (List AV) → Option (AV × Heap)
 | some cs => xEu fz z n es cs H
 | none => none
theorem xOT (fz z : Bool) (n es : Nat) (cs : List AV) : yFp fz z n es H (some cs) = xEu fz z n es cs H := rfl
theorem xRY (z : Bool) (n es : Nat) (cs : List AV) : xEu false z n es cs H = some (.own z H.length 0 n es,H ++ [.cells false z cs]) := rfl
def slK (z : Bool) (n : Nat) : Option (List AV) → Option AV
 | some cs => some (.sl z n cs)
 | none => none
theorem xRZ (z : Bool) (n : Nat) (cs : List AV) : slK z n (some cs) = some (.sl z n cs) := rfl
theorem xOU (z : Bool) (n es : Nat) (cs : List AV) : xEu true z n es cs H = if (cs.flatMap (bor frzN H)).isEmpty = true then xDi H (slK z n (cs.mapM (frz frzN H))) else none := by
 simp only [xEu,xDi,slK]
 split
 ·rename_i h
  cases cs.mapM (frz frzN H) <;> simp_all
 ·simp_all
theorem xOV (fz : Bool) (z : List AV) (es n : Nat) (parts : List (Nat × Arg)) : xAg R F H (.bslice fz z es n parts) =
  if parts.all (fun p => (opv F p.2).cells.length == es) = true then yFp fz false n es H (fillA (xC8 z n) (parts.map fun p => (p.1 * es,(opv F p.2).cells))) else none := by
 simp only [xAg,yFp]
 split
 ·cases fillA (xC8 z n) (parts.map fun p => (p.1 * es,(opv F p.2).cells)) <;> rfl
 ·rfl
def xZg (g : Bool) : Option (List AV) → Option AV
 | some cs => mkv g cs
 | none => none
theorem xVO (v : AV) : xZg false (some [v]) = some v := rfl
theorem xVP (cs : List AV) : xZg true (some cs) = some (.agg cs) := rfl
theorem xVQ (g : Bool) (n : Nat) (p : Arg) : xAg R F H (.load g n p) = xDi H (xZg g (rd H (opv F p) n)) := by
 simp only [xAg,xDi,xZg]
 cases rd H (opv F p) n with
 | none => rfl
 | some cs => simp only; cases mkv g cs <;> rfl
def rdK (off n : Nat) : Option Blk → Option (List AV)
 | some (.cells _ _ cs) => if off + n ≤ cs.length then some ((cs.drop off).take n) else none
 | _ => none
theorem yAr (id off n : Nat) : rd H (.ptr id off) n = rdK off n H[id]? := by
 simp only [rd,rdK]
 rfl
theorem xOW {off n : Nat} {fz z : Bool} {cs : List AV} (h : off + n ≤ cs.length) : rdK off n (some (.cells fz z cs)) = some ((cs.drop off).take n) := if_pos h
theorem xVR {off n : Nat} {cs : List AV} (h : off + n ≤ cs.length) : rd H (.vptr cs off) n = some ((cs.drop off).take n) := if_pos h
def wrK (H : Heap) (id off : Nat) (vs : List AV) : Option Blk → Option Heap
 | some (.cells false z cs) => if off + vs.length ≤ cs.length ∧ vs.all AV.isCell = true then some (H.set id (.cells false z (splice cs off vs))) else none
 | _ => none
theorem yAs (id off : Nat) (vs : List AV) : wr H (.ptr id off) vs = wrK H id off vs H[id]? := by
 simp only [wr,wrK]
 rfl
theorem xOX {id off : Nat} {vs : List AV} {z : Bool} {cs : List AV} (h : off + vs.length ≤ cs.length) (h2 : vs.all AV.isCell = true) : wrK H id off vs (some (.cells false z cs)) = some (H.set id (.cells false z (splice cs off vs))) := if_pos ⟨h,h2⟩
def xVS : Option Heap → Option (AV × Heap)
 | some H => some (.tup [],H)
 | none => none
theorem xIJ (H : Heap) : xVS (some H) = some (.tup [],H) := rfl
theorem xR0 (n : Nat) (p v : Arg) : xAg R F H (.store n p v) = if (opv F v).cells.length = n then xVS (wr H (opv F p) (opv F v).cells) else none := by
 simp only [xAg,xVS]
 split
 ·cases wr H (opv F p) (opv F v).cells <;> rfl
 ·rfl
def yD2 : AV → Option AV
 | .ptr id off => some (.ptr id off)
 | .vptr cs off => some (.vptr cs off)
 | .func f caps => some (.func f caps)
 | .yield l => some (.yield l)
 | _ => none
theorem xR1 (id off : Nat) : yD2 (.ptr id off) = some (.ptr id off) := rfl
theorem xOY (cs : List AV) (off : Nat) : yD2 (.vptr cs off) = some (.vptr cs off) := rfl
theorem xOZ (f : Nat) (cs : List AV) : yD2 (.func f cs) = some (.func f cs) := rfl
theorem xK0 (l : Nat) : yD2 (.yield l) = some (.yield l) := rfl
theorem xO0 (x : Arg) : xAg R F H (.nilchk x) = xDi H (yD2 (opv F x)) := by
 simp only [xAg]
 cases opv F x <;> rfl
theorem yAt (op : BinOp) (x y : Arg) : xAg R F H (.bin op x y) = xDi H (xEj op (opv F x) (opv F y)) := by
 simp only [xAg,xDi]
 cases xEj op (opv F x) (opv F y) <;> rfl
section
variable (k : IntKind) (a b : Int)
theorem xVT : xEj .add (.int k a) (.int k b) = some (.int k (k.wrap (a + b))) := by simp [xEj]
theorem xVU : xEj .sub (.int k a) (.int k b) = some (.int k (k.wrap (a - b))) := by simp [xEj]
theorem xVV : xEj .mul (.int k a) (.int k b) = some (.int k (k.wrap (a * b))) := by simp [xEj]
theorem xVW (h : b ≠ 0) : xEj .quo (.int k a) (.int k b) = some (.int k (k.wrap (a.tdiv b))) := by simp [xEj,h]
theorem xVX (h : b ≠ 0) : xEj .rem (.int k a) (.int k b) = some (.int k (a.tmod b)) := by simp [xEj,h]
theorem xVY : xEj .and (.int k a) (.int k b) = some (.int k (xFo .and k a b)) := by simp [xEj]
theorem yAu : xEj .or (.int k a) (.int k b) = some (.int k (xFo .or k a b)) := by simp [xEj]
theorem xVZ : xEj .xor (.int k a) (.int k b) = some (.int k (xFo .xor k a b)) := by simp [xEj]
theorem xK1 : xEj .andNot (.int k a) (.int k b) = some (.int k (xFo .andNot k a b)) := by simp [xEj]
theorem xV0 (k' : IntKind) (h : 0 ≤ b) : xEj .shl (.int k a) (.int k' b) = some (.int k (k.wrap (a * 2 ^ (min b.toNat k.bits)))) := by simp only [xEj]; rw [if_neg (by omega)]
theorem xV1 (k' : IntKind) (h : 0 ≤ b) : xEj .shr (.int k a) (.int k' b) = some (.int k (a.fdiv (2 ^ (min b.toNat k.bits)))) := by simp only [xEj]; rw [if_neg (by omega)]
theorem xV2 : xEj .eql (.int k a) (.int k b) = some (.bool (decide (a = b))) := by simp [xEj]; rfl
theorem xV3 : xEj .neq (.int k a) (.int k b) = some (.bool (!decide (a = b))) := by simp [xEj]; rfl
theorem xV4 : xEj .lss (.int k a) (.int k b) = some (.bool (decide (a < b))) := by simp [xEj]
theorem xV5 : xEj .leq (.int k a) (.int k b) = some (.bool (decide (a ≤ b))) := by simp [xEj]
theorem xV6 : xEj .gtr (.int k a) (.int k b) = some (.bool (decide (b < a))) := by simp [xEj]
theorem xV7 : xEj .geq (.int k a) (.int k b) = some (.bool (decide (b ≤ a))) := by simp [xEj]
end
def yFq (neg : Bool) : AV → AV → Option AV
 | .bool a,.bool b => some (.bool (if neg = true then a != b else a == b))
 | _,_ => none
theorem yAv (a b : Bool) : yFq false (.bool a) (.bool b) = some (.bool (decide (a = b))) := by cases a <;> cases b <;> rfl
theorem yAw (a b : Bool) : yFq true (.bool a) (.bool b) = some (.bool (!decide (a = b))) := by cases a <;> cases b <;> rfl
theorem yAx (neg : Bool) (x y : Arg) : xAg R F H (.beq neg x y) = xDi H (yFq neg (opv F x) (opv F y)) := by
 simp only [xAg]
 cases opv F x <;> cases opv F y <;> rfl
def xO1 (neg : Bool) : AV → Option AV
 | .sl z _ _ => some (.bool (z != neg))
 | .own z _ _ _ _ => some (.bool (z != neg))
 | _ => none
theorem xK2 (z : Bool) (n : Nat) (cs : List AV) : xO1 false (.sl z n cs) = some (.bool z) := by cases z <;> rfl
theorem xK3 (z : Bool) (n : Nat) (cs : List AV) : xO1 true (.sl z n cs) = some (.bool (!z)) := by cases z <;> rfl
theorem xIK (z : Bool) (id off n es : Nat) : xO1 false (.own z id off n es) = some (.bool z) := by cases z <;> rfl
theorem xIL (z : Bool) (id off n es : Nat) : xO1 true (.own z id off n es) = some (.bool (!z)) := by cases z <;> rfl
theorem xR2 (neg : Bool) (x : Arg) : xAg R F H (.isnil neg x) = xDi H (xO1 neg (opv F x)) := by
 simp only [xAg]
 cases opv F x <;> rfl
theorem yD3 (op : UnOp) (x : Arg) : xAg R F H (.un op x) = xDi H (unA op (opv F x)) := by
 simp only [xAg,xDi]
 cases unA op (opv F x) <;> rfl
theorem yAy (b : Bool) : unA .not (.bool b) = some (.bool !b) := rfl
theorem yAz (k : IntKind) (n : Int) : unA .neg (.int k n) = some (.int k (k.wrap (0 - n))) := rfl
theorem yAA (k : IntKind) (n : Int) : unA .xor (.int k n) = some (.int k (xFo .xor k (if k.signed then -1 else k.max) n)) := rfl
def yD4 (k : IntKind) : AV → Option AV
 | .int _ n => some (.int k (k.wrap n))
 | _ => none
theorem xO2 (k k' : IntKind) (n : Int) : yD4 k (.int k' n) = some (.int k (k.wrap n)) := rfl
theorem xV8 (k : IntKind) (x : Arg) : xAg R F H (.conv k x) = xDi H (yD4 k (opv F x)) := by
 simp only [xAg]
 cases opv F x <;> rfl
theorem xO3 (f : Nat) (caps : List Arg) : xAg R F H (.mkfunc f caps) = some (.func f (caps.map (opv F)),H) := rfl
def yGf (fz : Bool) (z : List AV) (bytes : Nat) (H : Heap) : AV → AV → Option (AV × Heap)
 | .int _ l,.int _ c => if 0 ≤ l ∧ l ≤ c ∧ c * bytes ≤ xBH ∧ c ≤ xBH ∧ z.all AV.isCell = true then xEu fz false l.toNat z.length (xC8 z l.toNat) H else none
 | _,_ => none
theorem xR3 (fz : Bool) (z : List AV) (bytes : Nat) (k k' : IntKind) {l c : Int} (h1 : 0 ≤ l) (h2 : l ≤ c) (h3 : c * bytes ≤ 140737488355328) (h4 : c ≤ 140737488355328) (h5 : z.all AV.isCell = true) : yGf fz z bytes H (.int k l) (.int k' c) = xEu fz false l.toNat z.length (xC8 z l.toNat) H := if_pos ⟨h1,h2,h3,h4,h5⟩
theorem xK4 (fz : Bool) (z : List AV) (bytes : Nat) (l c : Arg) : xAg R F H (.mkslice fz z bytes l c) = yGf fz z bytes H (opv F l) (opv F c) := by
 simp only [xAg]
 cases opv F l <;> cases opv F c <;> rfl
def yCg (es : Nat) (H : Heap) (x : AV) : Option (Nat × Nat) → Option AV
 | none => none
 | some (l,h) => match x with
  | .sl z _ cs => some (.sl z (h - l) ((cs.drop (l * es)).take ((h - l) * es)))
  | .own z id off _ _ => some (.own z id (off + l * es) (h - l) es)
  | _ => none
def xR4 (es : Nat) (H : Heap) (lo hi mx : Option AV) : AV → Option AV
 | .sl z n cs => if cs.length = n * es then yCg es H (.sl z n cs) (xB2 n lo hi mx) else none
 | .own z id off n es' => if es' = es then yCg es H (.own z id off n es') (xB2 n lo hi mx) else none
 | _ => none
theorem xR5 (es : Nat) (x : Arg) (lo hi mx : Option Arg) : xAg R F H (.slice es x lo hi mx) = xDi H (xR4 es H (lo.map (opv F)) (hi.map (opv F)) (mx.map (opv F)) (opv F x)) := by
 simp only [xAg,xDi,xR4,yCg]
 cases opv F x with
 | sl z n cs =>
  simp only
  split
  ·cases xB2 n (lo.map (opv F)) (hi.map (opv F)) (mx.map (opv F)) <;> rfl
  ·rfl
 | own z id off n es' =>
  simp only
  split
  ·cases xB2 n (lo.map (opv F)) (hi.map (opv F)) (mx.map (opv F)) <;> rfl
  ·rfl
 | _ => rfl
theorem xO4 {es n : Nat} {z : Bool} {cs : List AV} (lo hi mx : Option AV) (h : cs.length = n * es) : xR4 es H lo hi mx (.sl z n cs) = yCg es H (.sl z n cs) (xB2 n lo hi mx) := if_pos h
theorem xK5 {es n id off : Nat} {z : Bool} (lo hi mx : Option AV) : xR4 es H lo hi mx (.own z id off n es) = yCg es H (.own z id off n es) (xB2 n lo hi mx) := if_pos rfl
theorem xV9 (es : Nat) (z : Bool) (n : Nat) (cs : List AV) (l h : Nat) : yCg es H (.sl z n cs) (some (l,h)) = some (.sl z (h - l) ((cs.drop (l * es)).take ((h - l) * es))) := rfl
theorem xR6 (es : Nat) (z : Bool) (id off n es' : Nat) (l h : Nat) : yCg es H (.own z id off n es') (some (l,h)) = some (.own z id (off + l * es) (h - l) es) := rfl
theorem xO5 (n : Nat) : xB2 n none none none = some (0,n) := by simp [xB2]
theorem xO6 {n : Nat} {k : IntKind} {l : Int} (h0 : 0 ≤ l) (h : l ≤ n) : xB2 n (some (.int k l)) none none = some (l.toNat,n) := by
 simp only [xB2,xBR,if_pos h0]
 rw [if_pos ⟨by omega,by omega⟩]
theorem xO7 {n : Nat} {k : IntKind} {m : Int} (h0 : 0 ≤ m) (h : m ≤ n) : xB2 n none (some (.int k m)) none = some (0,m.toNat) := by
 simp only [xB2,xBR,if_pos h0]
 rw [if_pos ⟨by omega,by omega⟩]
theorem xO8 {n : Nat} {k k' : IntKind} {l m : Int} (h0 : 0 ≤ l) (h1 : l ≤ m) (h : m ≤ n) : xB2 n (some (.int k l)) (some (.int k' m)) none = some (l.toNat,m.toNat) := by
 have h2 : 0 ≤ m := by omega
 simp only [xB2,xBR,if_pos h0,if_pos h2]
 rw [if_pos ⟨by omega,by omega⟩]
def xWa (o : Nat) : AV → Option AV
 | .ptr id off => some (.ptr id (off + o))
 | .vptr cs off => some (.vptr cs (off + o))
 | _ => none
theorem xK6 (o id off : Nat) : xWa o (.ptr id off) = some (.ptr id (off + o)) := rfl
theorem xIM (o : Nat) (cs : List AV) (off : Nat) : xWa o (.vptr cs off) = some (.vptr cs (off + o)) := rfl
theorem xR7 (o : Nat) (x : Arg) : xAg R F H (.faddr o x) = xDi H (xWa o (opv F x)) := by
 simp only [xAg]
 cases opv F x <;> rfl
def xWb (g : Bool) (off n : Nat) : AV → Option AV
 | .agg cs => if off + n ≤ cs.length then mkv g ((cs.drop off).take n) else none
 | _ => none
theorem xK7 {g : Bool} {off n : Nat} {cs : List AV} (h : off + n ≤ cs.length) : xWb g off n (.agg cs) = mkv g ((cs.drop off).take n) := if_pos h
theorem yD5 (v : AV) : mkv false [v] = some v := rfl
theorem yD6 (cs : List AV) : mkv true cs = some (.agg cs) := rfl
theorem xR8 (g : Bool) (off n : Nat) (x : Arg) : xAg R F H (.field g off n x) = xDi H (xWb g off n (opv F x)) := by
 simp only [xAg]
 cases opv F x with
 | agg cs =>
  simp only [xWb,xDi]
  split
  ·cases mkv g ((cs.drop off).take n) <;> rfl
  ·rfl
 | _ => rfl
def xK8 (es : Nat) : AV → AV → Option AV
 | .sl _ n cs,.int _ i => if 0 ≤ i ∧ i.toNat < n then some (.vptr cs (i.toNat * es)) else none
 | .own _ id off n es',.int _ i => if 0 ≤ i ∧ i.toNat < n ∧ es' = es then some (.ptr id (off + i.toNat * es)) else none
 | _,_ => none
theorem xO9 {es n : Nat} {z : Bool} {cs : List AV} {k : IntKind} {i : Int} (h0 : 0 ≤ i) (h : i < n) : xK8 es (.sl z n cs) (.int k i) = some (.vptr cs (i.toNat * es)) := if_pos ⟨h0,by omega⟩
theorem xK9 {es n id off : Nat} {z : Bool} {k : IntKind} {i : Int} (h0 : 0 ≤ i) (h : i < n) : xK8 es (.own z id off n es) (.int k i) = some (.ptr id (off + i.toNat * es)) := if_pos ⟨h0,by omega,rfl⟩
theorem xR9 (es : Nat) (x i : Arg) : xAg R F H (.iaddr es x i) = xDi H (xK8 es (opv F x) (opv F i)) := by
 simp only [xAg]
 cases opv F x with
 | sl z n cs =>
  cases opv F i with
  | int k j =>
   simp only [xBR,xK8,xDi]
   by_cases h : 0 ≤ j
   ·by_cases h2 : j.toNat < n <;> simp [h,h2]
   ·simp [h]
  | _ => rfl
 | own z id off n es' =>
  cases opv F i with
  | int k j =>
   simp only [xBR,xK8,xDi]
   by_cases h : 0 ≤ j
   ·by_cases h2 : j.toNat < n
    ·by_cases h3 : es' = es <;> simp [h,h2,h3]
    ·simp [h,h2]
   ·simp [h]
  | _ => rfl
 | _ => cases opv F i <;> simp [xK8,xDi,xBR] <;> split <;> simp_all
def yFr (i : Nat) : AV → Option AV
 | .tup vs => vs[i]?
 | _ => none
theorem xSa (i : Nat) (vs : List AV) : yFr i (.tup vs) = vs[i]? := rfl
theorem yAB (i : Nat) (x : Arg) : xAg R F H (.ext i x) = xDi H (yFr i (opv F x)) := by
 simp only [xAg]
 cases opv F x with
 | tup vs => simp only [yFr,xDi]; cases vs[i]? <;> rfl
 | _ => rfl
def yFs : AV → Option AV
 | .sl _ n _ => some (.int .i64 n)
 | .own _ _ _ n _ => some (.int .i64 n)
 | _ => none
theorem xWc (z : Bool) (n : Nat) (cs : List AV) : yFs (.sl z n cs) = some (.int .i64 n) := rfl
theorem xSb (z : Bool) (id off n es : Nat) : yFs (.own z id off n es) = some (.int .i64 n) := rfl
theorem yAC (x : Arg) : xAg R F H (.len x) = xDi H (yFs (opv F x)) := by
 simp only [xAg]
 cases opv F x <;> rfl
theorem yAD (x : Arg) : xAg R F H (.cap x) = match opv F x with
 | .sl true _ _ => some (.int .i64 0,H)
 | _ => none := rfl
def yFt (neg : Bool) (n : Nat) : AV → AV → Option AV
 | .agg cs,.agg ds => if cs.length = n then (xCd cs ds).map fun b => .bool (b != neg) else none
 | _,_ => none
theorem xSc {neg : Bool} {n : Nat} {cs ds : List AV} (h : cs.length = n) : yFt neg n (.agg cs) (.agg ds) = (xCd cs ds).map fun b => .bool (b != neg) := if_pos h
theorem yAE (neg : Bool) (n : Nat) (x y : Arg) : xAg R F H (.aeq neg n x y) = xDi H (yFt neg n (opv F x) (opv F y)) := by
 simp only [xAg]
 cases opv F x with
 | agg cs => cases opv F y with
  | agg ds =>
   simp only [yFt,xDi]
   split
   ·cases xCd cs ds <;> rfl
   ·rfl
  | _ => rfl
 | _ => rfl
def yAF (fz : Bool) (es bytes : Nat) (H : Heap) (x : AV) : Option (Nat × List AV) → Option (AV × Heap)
 | none => none
 | some (m,ys) => match x with
  | .sl true _ _ => if m * bytes ≤ xBH ∧ m ≤ xBH then xEu fz (m == 0) m es ys H else none
  | .own z id off n es' => match H[id]? with
   | some (.cells false _ cs) => if off = 0 ∧ es' = es ∧ n * es ≤ cs.length ∧ (n + m) * bytes ≤ xBH ∧ n + m ≤ xBH then
     some (.own (z && m == 0) H.length 0 (n + m) es,H.set id .dead ++ [.cells false (z && m == 0) (cs.take (n * es) ++ ys)]) else none
   | _ => none
  | _ => none
theorem xIN (fz : Bool) (es bytes : Nat) (x y : Arg) : xAg R F H (.append fz es bytes x y) = yAF fz es bytes H (opv F x) (src H es (opv F y)) := by
 simp only [xAg,yAF]
 cases src H es (opv F y) <;> rfl
theorem xSd {fz : Bool} {es bytes n m : Nat} {cs ys : List AV} (h : m * bytes ≤ 140737488355328) (h2 : m ≤ 140737488355328) : yAF fz es bytes H (.sl true n cs) (some (m,ys)) = xEu fz (m == 0) m es ys H := if_pos ⟨h,h2⟩
def yCh (es bytes n m : Nat) (H : Heap) (z : Bool) (id : Nat) (ys : List AV) : Option Blk → Option (AV × Heap)
 | some (.cells false _ cs) => if n * es ≤ cs.length ∧ (n + m) * bytes ≤ xBH ∧ n + m ≤ xBH then
   some (.own (z && m == 0) H.length 0 (n + m) es,H.set id .dead ++ [.cells false (z && m == 0) (cs.take (n * es) ++ ys)]) else none
 | _ => none
theorem xSe (fz : Bool) (es bytes n m id : Nat) (z : Bool) (ys : List AV) : yAF fz es bytes H (.own z id 0 n es) (some (m,ys)) = yCh es bytes n m H z id ys H[id]? := by
 simp only [yAF,yCh]
 split
 ·rename_i z' cs hb
  by_cases h : n * es ≤ cs.length ∧ (n + m) * bytes ≤ xBH ∧ n + m ≤ xBH
  ·rw [if_pos h,if_pos ⟨trivial,trivial,h⟩]
  ·rw [if_neg h,if_neg (fun g => h g.2.2)]
 ·rename_i hne
  cases hb : H[id]? with
  | none => rfl
  | some b => cases b with
   | cells fz z cs => cases fz with
    | false => exact (hne _ _ hb).elim
    | true => rfl
   | _ => rfl
theorem xIO {es bytes n m id : Nat} {z z' : Bool} {ys cs : List AV} (h : n * es ≤ cs.length) (h2 : (n + m) * bytes ≤ 140737488355328) (h3 : n + m ≤ 140737488355328) : yCh es bytes n m H z id ys (some (.cells false z' cs)) =
  some (.own (z && m == 0) H.length 0 (n + m) es,H.set id .dead ++ [.cells false (z && m == 0) (cs.take (n * es) ++ ys)]) := if_pos ⟨h,h2,h3⟩
theorem yAG {es n : Nat} {z : Bool} {cs : List AV} (h : cs.length = n * es) : src H es (.sl z n cs) = some (n,cs) := if_pos h
def yFu (off n es : Nat) : Option Blk → Option (Nat × List AV)
 | some (.cells _ _ cs) => if off + n * es ≤ cs.length then some (n,(cs.drop off).take (n * es)) else none
 | _ => none
theorem xWd (es n id off : Nat) (z : Bool) : src H es (.own z id off n es) = yFu off n es H[id]? := by
 simp only [src,yFu]
 cases H[id]? with
 | none => rfl
 | some b => cases b <;> simp
theorem xLa {es n off : Nat} {fz z : Bool} {cs : List AV} (h : off + n * es ≤ cs.length) : yFu off n es (some (.cells fz z cs)) = some (n,(cs.drop off).take (n * es)) := if_pos h
def yD7 (z : List AV) (bytes id off k es m : Nat) (H : Heap) : Option Blk → Option (AV × Heap)
 | some (.cells false _ cs) => if off = 0 ∧ es = z.length ∧ k * z.length ≤ cs.length ∧ (k + m) * bytes ≤ xBH ∧ k + m ≤ xBH ∧ 0 < m ∧ z.all AV.isCell = true then
   some (.own false H.length 0 (k + m) z.length,H.set id .dead ++ [.cells false false (cs.take (k * z.length) ++ xC8 z m)]) else none
 | _ => none
def xHq (z : List AV) (bytes : Nat) (H : Heap) : AV → AV → Option (AV × Heap)
 | .sl true _ _,.int _ m => if 0 ≤ m ∧ m.toNat * bytes ≤ xBH ∧ m.toNat ≤ xBH ∧ z.all AV.isCell = true then xEu false (m.toNat == 0) m.toNat z.length (xC8 z m.toNat) H else none
 | .own false id off k es,.int _ m => if 0 ≤ m then yD7 z bytes id off k es m.toNat H H[id]? else none
 | _,_ => none
theorem xQG (z : List AV) (bytes id off k es m : Nat) (H : Heap) (b : Option Blk) : (match b with
   | some (.cells false _ cs) => if off = 0 ∧ es = z.length ∧ k * z.length ≤ cs.length ∧ (k + m) * bytes ≤ xBH ∧ k + m ≤ xBH ∧ 0 < m ∧ z.all AV.isCell = true then
     some (AV.own false H.length 0 (k + m) z.length,H.set id .dead ++ [.cells false false (cs.take (k * z.length) ++ xC8 z m)]) else none
   | _ => none) = yD7 z bytes id off k es m H b := by
 rcases b with _ | b
 ·rfl
 ·cases b with
  | cells fz zz cs => cases fz <;> rfl
  | _ => rfl
theorem xLb (z : List AV) (bytes : Nat) (x n : Arg) : xAg R F H (.appendz z bytes x n) = xHq z bytes H (opv F x) (opv F n) := by
 simp only [xAg]
 cases hn : opv F n with
 | int k m =>
  simp only [xBR]
  by_cases h : 0 ≤ m
  ·cases hx : opv F x with
   | sl zz nn cs => cases zz <;> simp [xHq,h]
   | own zz id off kk es =>
    cases zz with
    | true => simp [xHq,h]
    | false => simp only [h,if_true,xHq]; exact xQG _ _ _ _ _ _ _ _ _
   | _ => simp [xHq,h]
  ·cases hx : opv F x with
   | sl zz nn cs => cases zz <;> simp [xHq,h]
   | own zz id off kk es => cases zz <;> simp [xHq,h]
   | _ => simp [xHq,h]
 | _ =>
  cases hx : opv F x with
  | sl zz nn cs => cases zz <;> simp [xHq,xBR]
  | own zz id off kk es => cases zz <;> simp [xHq,xBR]
  | _ => simp [xHq,xBR]
theorem xPa {z : List AV} {bytes n : Nat} {cs : List AV} {k : IntKind} {m : Int} (h0 : 0 ≤ m) (h1 : m.toNat * bytes ≤ 140737488355328) (h2 : m.toNat ≤ 140737488355328) (h3 : z.all AV.isCell = true) : xHq z bytes H (.sl true n cs) (.int k m) = xEu false (m.toNat == 0) m.toNat z.length (xC8 z m.toNat) H := if_pos ⟨h0,h1,h2,h3⟩
def yFv : AV → AV → Option AV
 | .int k a,.int _ b => some (.int k (max a b))
 | _,_ => none
def yFw : AV → AV → Option AV
 | .int k a,.int _ b => some (.int k (min a b))
 | _,_ => none
theorem xSf (k k' : IntKind) (a b : Int) : yFv (.int k a) (.int k' b) = some (.int k (max a b)) := rfl
theorem xSg (k k' : IntKind) (a b : Int) : yFw (.int k a) (.int k' b) = some (.int k (min a b)) := rfl
theorem xWe (x y : Arg) : xAg R F H (.maxi x y) = xDi H (yFv (opv F x) (opv F y)) := by
 simp only [xAg]
 cases opv F x with
 | int k a => cases opv F y with
  | int k' b => simp only [yFv,xDi]; congr 3; split <;> omega
  | _ => rfl
 | _ => rfl
theorem xWf (x y : Arg) : xAg R F H (.mini x y) = xDi H (yFw (opv F x) (opv F y)) := by
 simp only [xAg]
 cases opv F x with
 | int k a => cases opv F y with
  | int k' b => simp only [yFw,xDi]; congr 3; split <;> omega
  | _ => rfl
 | _ => rfl
theorem yAH (z : List AV) : xC8 z 0 = [] := rfl
theorem yAI (z : List AV) : xC8 z 1 = z ++ ([]) := rfl
theorem yAJ (z : List AV) : xC8 z 2 = z ++ (z ++ ([])) := rfl
theorem yAK (z : List AV) : xC8 z 3 = z ++ (z ++ (z ++ ([]))) := rfl
theorem yAL (z : List AV) : xC8 z 4 = z ++ (z ++ (z ++ (z ++ ([])))) := rfl
theorem yAM (z : List AV) : xC8 z 5 = z ++ (z ++ (z ++ (z ++ (z ++ ([]))))) := rfl
theorem yAN (z : List AV) : xC8 z 6 = z ++ (z ++ (z ++ (z ++ (z ++ (z ++ ([])))))) := rfl
theorem yAO (z : List AV) : xC8 z 7 = z ++ (z ++ (z ++ (z ++ (z ++ (z ++ (z ++ ([]))))))) := rfl
theorem yAP (z : List AV) : xC8 z 8 = z ++ (z ++ (z ++ (z ++ (z ++ (z ++ (z ++ (z ++ ([])))))))) := rfl
theorem yAQ (z : List AV) : xC8 z 9 = z ++ (z ++ (z ++ (z ++ (z ++ (z ++ (z ++ (z ++ (z ++ ([]))))))))) := rfl
theorem xWg (z : List AV) : xC8 z 10 = z ++ (z ++ (z ++ (z ++ (z ++ (z ++ (z ++ (z ++ (z ++ (z ++ ([])))))))))) := rfl
theorem xWh (z : List AV) : xC8 z 11 = z ++ (z ++ (z ++ (z ++ (z ++ (z ++ (z ++ (z ++ (z ++ (z ++ (z ++ ([]))))))))))) := rfl
theorem xWi (z : List AV) : xC8 z 12 = z ++ (z ++ (z ++ (z ++ (z ++ (z ++ (z ++ (z ++ (z ++ (z ++ (z ++ (z ++ ([])))))))))))) := rfl
theorem xFK (d : Nat) (k : IntKind) (n : Int) : frz d H (.int k n) = some (.int k n) := by cases d <;> rfl
theorem xSh (d : Nat) (b : Bool) : frz d H (.bool b) = some (.bool b) := by cases d <;> rfl
theorem xWj (d : Nat) (b : ByteArray) : frz d H (.str b) = some (.str b) := by cases d <;> rfl
theorem xSi (d : Nat) : frz d H .nilp = some .nilp := by cases d <;> rfl
theorem xSj (d : Nat) : frz d H .nilf = some .nilf := by cases d <;> rfl
theorem xWk (d : Nat) : frz d H .any = some .any := by cases d <;> rfl
theorem xSk (d f : Nat) : frz d H (.func f []) = some (.func f []) := by cases d <;> rfl
theorem yAR (d : Nat) (z : Bool) (n : Nat) (cs : List AV) : frz d H (.sl z n cs) = some (.sl z n cs) := by cases d <;> rfl
theorem xWl (d : Nat) (cs : List AV) : frz (d + 1) H (.agg cs) = (cs.mapM (frz d H)).map AV.agg := rfl
theorem xWm (d : Nat) (cs : List AV) : frz (d + 1) H (.tup cs) = (cs.mapM (frz d H)).map AV.tup := rfl
def yFx (d : Nat) (H : Heap) (z : Bool) (off n es : Nat) : Option Blk → Option AV
 | some (.cells _ _ cs) => if off + n * es ≤ cs.length then slK z n (((cs.drop off).take (n * es)).mapM (frz d H)) else none
 | _ => none
theorem xAi (d : Nat) (z : Bool) (id off n es : Nat) : frz (d + 1) H (.own z id off n es) = yFx d H z off n es H[id]? := by
 simp only [frz,yFx]
 cases H[id]? with
 | none => rfl
 | some b => cases b with
  | cells fz z' cs =>
   simp only
   split
   ·cases ((cs.drop off).take (n * es)).mapM (frz d H) <;> rfl
   ·rfl
  | _ => rfl
theorem xLc {d off n es : Nat} {z fz z' : Bool} {cs : List AV} (h : off + n * es ≤ cs.length) : yFx d H z off n es (some (.cells fz z' cs)) = slK z n (((cs.drop off).take (n * es)).mapM (frz d H)) := if_pos h
theorem xE1 (d : Nat) (k : IntKind) (n : Int) : bor d H (.int k n) = [] := by cases d <;> rfl
theorem xSl (d : Nat) (b : Bool) : bor d H (.bool b) = [] := by cases d <;> rfl
theorem xWn (d : Nat) (b : ByteArray) : bor d H (.str b) = [] := by cases d <;> rfl
theorem xSm (d : Nat) : bor d H .nilp = [] := by cases d <;> rfl
theorem xSn (d : Nat) : bor d H .nilf = [] := by cases d <;> rfl
theorem xWo (d : Nat) : bor d H .any = [] := by cases d <;> rfl
theorem xSo (d f : Nat) (cs : List AV) : bor d H (.func f cs) = [] := by cases d <;> rfl
theorem yAS (ss : List Nat) (b : ACode) (s : St) : run R (.fz ss b) s = run R b ⟨s.F,fzIds s.H (ss.flatMap fun i => bor frzN s.H (s.F.getD i .any))⟩ := rfl
def yFy (R : Rec) (i : Nat) (b : ACode) (s : St) (ids : List Nat) : Option AV → Option (AExit × St)
 | some v => run R b ⟨s.F.set i v,fzIds s.H ids⟩
 | none => none
theorem xWp (i : Nat) (b : ACode) (s : St) : run R (.fzs i b) s = yFy R i b s (yDf s.H (s.F.getD i .any)) (xZ6 s.H (s.F.getD i .any)) := by
 simp only [run,yFy]
 cases xZ6 s.H (s.F.getD i .any) <;> rfl
theorem xB7 (f : Nat) (caps : List AV) : xZ6 H (.func f caps) = (caps.mapM (frz frzN H)).map (AV.func f) := rfl
theorem xB8 (f : Nat) (caps : List AV) : yDf H (.func f caps) = caps.flatMap (bor frzN H) := rfl
theorem xPb (i : Nat) (b : ACode) (s : St) (ids : List Nat) (v : AV) : yFy R i b s ids (some v) = run R b ⟨s.F.set i v,fzIds s.H ids⟩ := rfl
def yFz (d : Nat) (H : Heap) (off : Nat) : Option Blk → Option AV
 | some (.cells _ _ cs) => (cs.mapM (frz d H)).map fun cs' => .vptr cs' off
 | _ => none
theorem xCO (d i o : Nat) : frz (d + 1) H (.ptr i o) = yFz d H o H[i]? := by
 simp only [frz,yFz]
 cases H[i]? with
 | none => rfl
 | some b => cases b <;> rfl
theorem xLd (d : Nat) (o : Nat) (fz z : Bool) (cs : List AV) : yFz d H o (some (.cells fz z cs)) = (cs.mapM (frz d H)).map fun cs' => .vptr cs' o := rfl
theorem xSp (d : Nat) (cs : List AV) (o : Nat) : frz d H (.vptr cs o) = some (.vptr cs o) := by cases d <;> rfl
def yCi (d : Nat) (H : Heap) : Option Blk → List Nat
 | some (.cells _ _ cs) => cs.flatMap (bor d H)
 | _ => []
theorem xWq (d i o : Nat) : bor (d + 1) H (.ptr i o) = i :: yCi d H H[i]? := by
 simp only [bor,yCi]
 cases H[i]? with
 | none => rfl
 | some b => cases b <;> rfl
theorem xIP (d : Nat) (fz z : Bool) (cs : List AV) : yCi d H (some (.cells fz z cs)) = cs.flatMap (bor d H) := rfl
theorem xSq (d : Nat) (cs : List AV) (o : Nat) : bor d H (.vptr cs o) = [] := by cases d <;> rfl
def yCj : Option Blk → Bool
 | some (.cells true _ _) => true
 | _ => false
theorem xLe (i : Nat) : xGL H i = yCj H[i]? := by
 simp only [xGL,yCj]
 cases H[i]? with
 | none => rfl
 | some b => cases b with
  | cells fz z cs => cases fz <;> rfl
  | _ => rfl
theorem xWr (z : Bool) (cs : List AV) : yCj (some (.cells true z cs)) = true := rfl
theorem yAT (d : Nat) (z : Bool) (n : Nat) (cs : List AV) : bor d H (.sl z n cs) = [] := by cases d <;> rfl
theorem xWs (d : Nat) (cs : List AV) : bor (d + 1) H (.agg cs) = cs.flatMap (bor d H) := rfl
theorem xWt (d : Nat) (cs : List AV) : bor (d + 1) H (.tup cs) = cs.flatMap (bor d H) := rfl
def yFA (d : Nat) (H : Heap) (off n es : Nat) : Option Blk → List Nat
 | some (.cells _ _ cs) => ((cs.drop off).take (n * es)).flatMap (bor d H)
 | _ => []
theorem xAj (d : Nat) (z : Bool) (id off n es : Nat) : bor (d + 1) H (.own z id off n es) = id :: yFA d H off n es H[id]? := by
 simp only [bor,yFA]
 cases H[id]? with
 | none => rfl
 | some b => cases b <;> rfl
theorem xLf (d off n es : Nat) (fz z : Bool) (cs : List AV) : yFA d H off n es (some (.cells fz z cs)) = ((cs.drop off).take (n * es)).flatMap (bor d H) := rfl
def yAU (args : List AV) (H : Heap) : Option AV → Option (AV × Heap)
 | some r => some (r,if xAV r = true then H else fzIds H (args.flatMap (bor frzN H)))
 | none => none
theorem xPc (args : List AV) (r : AV) : yAU args H (some r) = some (r,if xAV r = true then H else fzIds H (args.flatMap (bor frzN H))) := rfl
theorem xPd (args : List AV) : yAU args H none = none := rfl
theorem xSr (args : List AV) {c : Prop} [Decidable c] (x y : Option AV) : yAU args H (if c then x else y) = if c then yAU args H x else yAU args H y := by split <;> rfl
def yFB (R : Rec) (f : Nat) (args : List AV) (H : Heap) : Option (List AV) → Option (AV × Heap)
 | some args' => yAU args H (R.pcall f args')
 | none => none
theorem xPe (f : Nat) (args args' : List AV) : yFB R f args H (some args') = yAU args H (R.pcall f args') := rfl
theorem xPf (f : Nat) (args : List AV) : xCg R f args H = yFB R f args H (args.mapM (frz frzN H)) := by
 simp only [xCg,yFB]
 cases args.mapM (frz frzN H) with
 | none => rfl
 | some args' => simp only [yAU]; cases R.pcall f args' <;> rfl
theorem xWu (f : Nat) (args : List Arg) : xAg R F H (.call f args) = xCg R f (args.map (opv F)) H := rfl
theorem xSs (f : Arg) (args : List Arg) : xAg R F H (.icall f args) = R.icall (opv F f) (args.map (opv F)) H := rfl
def yAV (R : Rec) (args : List AV) (H : Heap) : AV → Option (AV × Heap)
 | .func g caps => xCg R g (args ++ caps) H
 | _ => none
theorem xIQ (args : List AV) (g : Nat) (caps : List AV) : yAV R args H (.func g caps) = xCg R g (args ++ caps) H := rfl
theorem xSt (f : Arg) (args : List Arg) : xAg R F H (.fcall f args) = yAV R (args.map (opv F)) H (opv F f) := by
 simp only [xAg]
 cases opv F f <;> rfl
def xFw (args : List AV) (H : Heap) : Option (AV × Heap) → Option (AV × Heap)
 | some (r,_) => if quietCall r H args = true then some (r,H) else none
 | none => none
theorem xIR (args : List AV) (r : AV) (H' : Heap) : xFw args H (some (r,H')) = if quietCall r H args = true then some (r,H) else none := rfl
theorem xIS (args : List AV) : xFw args H none = none := rfl
theorem xLg (args : List AV) {c : Prop} [Decidable c] (x y : Option (AV × Heap)) : xFw args H (if c then x else y) = if c then xFw args H x else xFw args H y := by split <;> rfl
theorem xWv (f : Nat) (args : List Arg) : xBu R F H (.call f args) = xFw (args.map (opv F)) H (xCg R f (args.map (opv F)) H) := by
 simp only [xBu,xA7,xFw]
 cases xCg R f (args.map (opv F)) H with
 | none => rfl
 | some r => obtain ⟨r,H'⟩ := r; simp only; split <;> rfl
def xQH (R : Rec) (args : List AV) (H : Heap) : AV → Option (AV × Heap)
 | .func g caps => xFw (args ++ caps) H (xCg R g (args ++ caps) H)
 | _ => none
theorem xHb (args : List AV) (g : Nat) (caps : List AV) : xQH R args H (.func g caps) = xFw (args ++ caps) H (xCg R g (args ++ caps) H) := rfl
theorem xSu (f : Arg) (args : List Arg) : xBu R F H (.fcall f args) = xQH R (args.map (opv F)) H (opv F f) := by
 simp only [xBu,xA7,xFw,xQH]
 cases opv F f with
 | func g caps =>
  simp only
  cases xCg R g (args.map (opv F) ++ caps) H with
  | none => rfl
  | some r => obtain ⟨r,H'⟩ := r; simp only; split <;> rfl
 | _ => rfl
theorem yAW (v : AV) : xBu R F H (.box (.c v)) = if v.cells.all AV.isCell = true then some (.any,H) else none := by
 simp only [xBu,xA7]
 split <;> rfl
def xEr (H : Heap) : Option (AV × Heap) → Option (AV × Heap)
 | some (v,_) => some (v,H)
 | none => none
theorem xPg (v : AV) (H' : Heap) : xEr H (some (v,H')) = some (v,H) := rfl
theorem xPh : xEr H none = none := rfl
theorem xSv {c : Prop} [Decidable c] (x y : Option (AV × Heap)) : xEr H (if c then x else y) = if c then xEr H x else xEr H y := by split <;> rfl
theorem xCP (op : AOp) (h : xA7 R F H op = (xAg R F H op).map (·.1)) : xBu R F H op = xEr H (xAg R F H op) := by
 simp only [xBu,h,xEr]
 cases xAg R F H op <;> rfl
theorem yAX (x : Arg) : xBu R F H (.mov x) = xEr H (xAg R F H (.mov x)) := xCP _ rfl
theorem xWw (c a b : Arg) : xBu R F H (.pick c a b) = xEr H (xAg R F H (.pick c a b)) := xCP _ rfl
theorem xSw (z : List AV) (parts : List (Nat × Nat × Arg)) : xBu R F H (.build z parts) = xEr H (xAg R F H (.build z parts)) := xCP _ rfl
theorem xPi (z : List AV) (es n : Nat) (parts : List (Nat × Arg)) : xBu R F H (.bslice true z es n parts) = xEr H (xAg R F H (.bslice true z es n parts)) := xCP _ rfl
theorem xWx (g : Bool) (n : Nat) (p : Arg) : xBu R F H (.load g n p) = xEr H (xAg R F H (.load g n p)) := xCP _ rfl
theorem xPj (x : Arg) : xBu R F H (.nilchk x) = xEr H (xAg R F H (.nilchk x)) := xCP _ rfl
theorem yAY (op : BinOp) (x y : Arg) : xBu R F H (.bin op x y) = xEr H (xAg R F H (.bin op x y)) := xCP _ rfl
theorem yAZ (neg : Bool) (x y : Arg) : xBu R F H (.beq neg x y) = xEr H (xAg R F H (.beq neg x y)) := xCP _ rfl
theorem xSx (neg : Bool) (x : Arg) : xBu R F H (.isnil neg x) = xEr H (xAg R F H (.isnil neg x)) := xCP _ rfl
theorem yD8 (op : UnOp) (x : Arg) : xBu R F H (.un op x) = xEr H (xAg R F H (.un op x)) := xCP _ rfl
theorem xWy (k : IntKind) (x : Arg) : xBu R F H (.conv k x) = xEr H (xAg R F H (.conv k x)) := xCP _ rfl
theorem xPk (f : Nat) (caps : List Arg) : xBu R F H (.mkfunc f caps) = xEr H (xAg R F H (.mkfunc f caps)) := xCP _ rfl
theorem xLh (z : List AV) (bytes : Nat) (l c : Arg) : xBu R F H (.mkslice true z bytes l c) = xEr H (xAg R F H (.mkslice true z bytes l c)) := xCP _ rfl
theorem xSy (es : Nat) (x : Arg) (lo hi mx : Option Arg) : xBu R F H (.slice es x lo hi mx) = xEr H (xAg R F H (.slice es x lo hi mx)) := xCP _ rfl
theorem xSz (o : Nat) (x : Arg) : xBu R F H (.faddr o x) = xEr H (xAg R F H (.faddr o x)) := xCP _ rfl
theorem xSA (g : Bool) (off n : Nat) (x : Arg) : xBu R F H (.field g off n x) = xEr H (xAg R F H (.field g off n x)) := xCP _ rfl
theorem xSB (es : Nat) (x i : Arg) : xBu R F H (.iaddr es x i) = xEr H (xAg R F H (.iaddr es x i)) := xCP _ rfl
theorem yA0 (i : Nat) (x : Arg) : xBu R F H (.ext i x) = xEr H (xAg R F H (.ext i x)) := xCP _ rfl
theorem yA1 (x : Arg) : xBu R F H (.len x) = xEr H (xAg R F H (.len x)) := xCP _ rfl
theorem yA2 (x : Arg) : xBu R F H (.cap x) = xEr H (xAg R F H (.cap x)) := xCP _ rfl
theorem yA3 (neg : Bool) (n : Nat) (x y : Arg) : xBu R F H (.aeq neg n x y) = xEr H (xAg R F H (.aeq neg n x y)) := xCP _ rfl
theorem xWz (x y : Arg) : xBu R F H (.maxi x y) = xEr H (xAg R F H (.maxi x y)) := xCP _ rfl
theorem xWA (x y : Arg) : xBu R F H (.mini x y) = xEr H (xAg R F H (.mini x y)) := xCP _ rfl
def yCk (es bytes : Nat) (H : Heap) (x : AV) (o : Option (Nat × List AV)) : Option (AV × Heap) := match x with
 | .sl _ _ _ => xEr H (yAF true es bytes H x o)
 | _ => none
theorem xSC (es bytes : Nat) (z : Bool) (n : Nat) (cs : List AV) (o : Option (Nat × List AV)) : yCk es bytes H (.sl z n cs) o = xEr H (yAF true es bytes H (.sl z n cs) o) := rfl
theorem xPl (es bytes : Nat) (x y : Arg) : xBu R F H (.append true es bytes x y) = yCk es bytes H (opv F x) (src H es (opv F y)) := by
 simp only [xBu,xA7,yCk]
 cases h : opv F x with
 | sl z n cs =>
  simp only [xIN,h,xEr]
  cases yAF true es bytes H (.sl z n cs) (src H es (opv F y)) <;> rfl
 | _ => rfl
def xTZ (H : Heap) : Option AV → Option (AV × Heap)
 | some v => some (v,H)
 | none => none
theorem xLi (v : AV) : xTZ H (some v) = some (v,H) := rfl
def xPm (rs : List ARes) : Option (AExit × St) → Option (AV × Heap)
 | some (.normal,s) => xTZ s.H (xCr rs s)
 | some (.ret,s) => xTZ s.H (xCr rs s)
 | _ => none
theorem xHc (rs : List ARes) (F : List AV) (H : Heap) : xPm rs (some (.normal,⟨F,H⟩)) = xTZ H (xCr rs ⟨F,H⟩) := rfl
theorem xPn (rs : List ARes) (F : List AV) (H : Heap) : xPm rs (some (.ret,⟨F,H⟩)) = xTZ H (xCr rs ⟨F,H⟩) := rfl
theorem xLj (rs : List ARes) : xPm rs none = none := rfl
theorem xPo (rs : List ARes) {c : Prop} [Decidable c] (x y : Option (AExit × St)) : xPm rs (if c then x else y) = if c then xPm rs x else xPm rs y := by split <;> rfl
def pads : Nat → List AV
 | 0 => []
 | n + 1 => .tup [] :: pads n
theorem xWB : ∀ n,List.replicate n (AV.tup []) = pads n
 | 0 => rfl
 | n + 1 => by rw [List.replicate_succ,xWB n]; rfl
theorem xBf (n : Nat) (code : ACode) (rs : List ARes) (args : List AV) : xB6 R ⟨n,code,rs⟩ args H = xPm rs (run R code ⟨args ++ pads (n - args.length),H⟩) := by
 rw [← xWB]
 simp only [xB6,xPm,xM4,xTZ]
 cases h : run R code ⟨args ++ List.replicate (n - args.length) (.tup []),H⟩ with
 | none => rfl
 | some r =>
  obtain ⟨e,s⟩ := r
  cases e with
  | exit i => rfl
  | _ => simp only; cases xCr rs s <;> rfl
def xIT : Option (AV × Heap) → Option AV
 | some (r,H') => frz frzN H' r
 | none => none
theorem xIU (r : AV) (H' : Heap) : xIT (some (r,H')) = frz frzN H' r := rfl
theorem xIV : xIT none = none := rfl
theorem xLk {c : Prop} [Decidable c] (x y : Option (AV × Heap)) : xIT (if c then x else y) = if c then xIT x else xIT y := by split <;> rfl
theorem xAu (fn : AFunc) (args : List AV) : xBo R fn args = xIT (xB6 R fn args []) := by
 simp only [xBo,xIT]
 cases xB6 R fn args [] <;> rfl
def yCl (g : Bool) : Option (List AV) → Option AV
 | some cs => mkv g cs
 | none => none
theorem xLl (g : Bool) (cs : List AV) : yCl g (some cs) = mkv g cs := rfl
theorem xWC (t : Nat) : xUY ⟨F,H⟩ (.tmp t) = some (F.getD t .any) := rfl
theorem xSD (t : Nat) (g : Bool) (n : Nat) : xUY ⟨F,H⟩ (.cell t g n) = yCl g (rd H (F.getD t .any) n) := by
 simp only [xUY,yCl]
 cases rd H (F.getD t .any) n <;> rfl
theorem xPp : xCr [] s = some (.tup []) := rfl
theorem xPq (r : ARes) : xCr [r] s = xUY s r := rfl
def yFC (s : St) (rs : List ARes) : Option AV → Option (List AV)
 | some v => (xTV s rs).map (v :: ·)
 | none => none
theorem xPr (rs : List ARes) (v : AV) : yFC s rs (some v) = (xTV s rs).map (v :: ·) := rfl
theorem xSE : xTV s [] = some [] := rfl
theorem xPs (r : ARes) (rs : List ARes) : xTV s (r :: rs) = yFC s rs (xUY s r) := by
 simp only [xTV,yFC]
 cases xUY s r <;> rfl
theorem xPt (r r' : ARes) (rs : List ARes) : xCr (r :: r' :: rs) s = (xTV s (r :: r' :: rs)).map .tup := rfl
def xGf (F : List AV) (l : Nat) : Option (AV × Heap) → Option (AExit × St)
 | some (_,H') => match H'[l]? with
  | some (.loop st pend _ _ _ _) => if st = 1 then none else some ((match pend with | none => .normal | some e => e),⟨F,H'.set l .dead⟩)
  | _ => none
 | none => none
def xWD (R : Rec) (F : List AV) (H : Heap) (ps : List Nat) (asg body : ACode) : AV → Option (AExit × St)
 | .func g caps => xGf F H.length (R.icall (.func g caps) [.yield H.length] (H ++ [.loop 0 none F ps asg body]))
 | _ => none
theorem xPu (f : Arg) (ps : List Nat) (asg body : ACode) (F : List AV) (H : Heap) : run R (.range f ps asg body) ⟨F,H⟩ = xWD R F H ps asg body (opv F f) := by
 simp only [run]
 cases opv F f with
 | func g caps =>
  simp only [xWD,xGf]
  cases R.icall (.func g caps) [.yield H.length] (H ++ [.loop 0 none F ps asg body]) with
  | none => rfl
  | some r =>
   obtain ⟨v,H'⟩ := r
   simp only
   cases H'[H.length]? with
   | none => rfl
   | some b => cases b <;> rfl
 | _ => rfl
theorem xIW (ps : List Nat) (asg body : ACode) (g : Nat) (caps : List AV) : xWD R F H ps asg body (.func g caps) = xGf F H.length (R.icall (.func g caps) [.yield H.length] (H ++ [.loop 0 none F ps asg body])) := rfl
def xGg (l : Nat) (e : AExit) (H : Heap) : Option Blk → Option (AV × Heap)
 | some (.loop 1 _ F ps asg body) => some (match e with
  | .normal => (.bool true,H.set l (.loop 0 none F ps asg body))
  | e => (.bool false,H.set l (.loop 2 (some e) F ps asg body)))
 | _ => none
def xD6 (l : Nat) : Option (AExit × St) → Option (AV × Heap)
 | some (e,s) => xGg l e s.H s.H[l]?
 | none => none
def xMm (R : Rec) (l : Nat) (body0 : ACode) (s : St) : Option Blk → Option (AV × Heap)
 | some (.loop 0 pend F ps asg body) => xD6 l (run R body0 ⟨s.F,s.H.set l (.loop 1 pend F ps asg body)⟩)
 | _ => none
def xZh (R : Rec) (l : Nat) (body0 : ACode) : Option (AExit × St) → Option (AV × Heap)
 | some (.normal,s) => xMm R l body0 s s.H[l]?
 | _ => none
theorem xE2 (l : Nat) (body0 : ACode) (F : List AV) (H : Heap) : xZh R l body0 (some (.normal,⟨F,H⟩)) = xMm R l body0 ⟨F,H⟩ H[l]? := rfl
theorem xGh (l : Nat) (body0 : ACode) (F : List AV) (H : Heap) (pend : Option AExit) (F1 : List AV) (ps : List Nat) (asg body : ACode) : xMm R l body0 ⟨F,H⟩ (some (.loop 0 pend F1 ps asg body)) = xD6 l (run R body0 ⟨F,H.set l (.loop 1 pend F1 ps asg body)⟩) := rfl
theorem xFx (l : Nat) (e : AExit) (F : List AV) (H : Heap) : xD6 l (some (e,⟨F,H⟩)) = xGg l e H H[l]? := rfl
theorem xGi (l : Nat) {c : Prop} [Decidable c] (x y : Option (AExit × St)) : xD6 l (if c then x else y) = if c then xD6 l x else xD6 l y := by split <;> rfl
theorem xE3 (l : Nat) (H : Heap) (pend : Option AExit) (F : List AV) (ps : List Nat) (asg body : ACode) : xGg l .normal H (some (.loop 1 pend F ps asg body)) = some (.bool true,H.set l (.loop 0 none F ps asg body)) := rfl
theorem xGj (l i : Nat) (H : Heap) (pend : Option AExit) (F : List AV) (ps : List Nat) (asg body : ACode) : xGg l (.exit i) H (some (.loop 1 pend F ps asg body)) = some (.bool false,H.set l (.loop 2 (some (.exit i)) F ps asg body)) := rfl
theorem xHd (l : Nat) (H : Heap) (pend : Option AExit) (F : List AV) (ps : List Nat) (asg body : ACode) : xGg l .ret H (some (.loop 1 pend F ps asg body)) = some (.bool false,H.set l (.loop 2 (some .ret) F ps asg body)) := rfl
def xHz (F : List AV) (l : Nat) (H : Heap) : Option Blk → Option (AExit × St)
 | some (.loop st pend _ _ _ _) => if st = 1 then none else some ((match pend with | none => .normal | some e => e),⟨F,H.set l .dead⟩)
 | _ => none
theorem xGk (l : Nat) (v : AV) (H : Heap) : xGf F l (some (v,H)) = xHz F l H H[l]? := by
 simp only [xGf,xHz]
theorem xLm (l : Nat) (H : Heap) (F1 : List AV) (ps : List Nat) (asg body : ACode) : xHz F l H (some (.loop 0 none F1 ps asg body)) = some (.normal,⟨F,H.set l .dead⟩) := rfl
theorem xLn (l : Nat) (H : Heap) (e : AExit) (F1 : List AV) (ps : List Nat) (asg body : ACode) : xHz F l H (some (.loop 2 (some e) F1 ps asg body)) = some (e,⟨F,H.set l .dead⟩) := rfl
end
section
variable {R : Rec} {F : List AV} {H : Heap} {s : St}
def xWE : Option (AV × Heap) → Option (AV × List Blk)
 | some (r,H') => (xDQ H' r).map fun (v,B) => (v,B.map (·.2))
 | none => none
theorem xBF (f : Nat) (args : List AV) : xBB R f args = xWE (R.icall (.func f []) args []) := by
 unfold xBB xWE
 cases R.icall (.func f []) args [] <;> rfl
theorem xIX (r : AV) (H' : Heap) : xWE (some (r,H')) = (xDQ H' r).map fun (v,B) => (v,B.map (·.2)) := rfl
def ocK (H : Heap) (ids : List Nat) : Option (AV × List Blk) → Option (AV × Heap)
 | some (v,B) => some (xAP H.length v,fzIds H ids ++ B)
 | none => none
def xLo (R : Rec) (f : Nat) (H : Heap) (ids : List Nat) : Option (List AV) → Option (AV × Heap)
 | some args' => ocK H ids (xBB R f args')
 | none => none
theorem xSF (f : Nat) (args : List Arg) : xAg R F H (.ocall f args) = xLo R f H ((args.map (opv F)).flatMap (bor frzN H)) ((args.map (opv F)).mapM (frz frzN H)) := by
 simp only [xAg,xLo]
 cases (args.map (opv F)).mapM (frz frzN H) with
 | none => rfl
 | some args' =>
  simp only [ocK]
  cases xBB R f args' <;> rfl
theorem xIY (f : Nat) (ids : List Nat) (args' : List AV) : xLo R f H ids (some args') = ocK H ids (xBB R f args') := rfl
theorem xSG (ids : List Nat) (v : AV) (B : List Blk) : ocK H ids (some (v,B)) = some (xAP H.length v,fzIds H ids ++ B) := rfl
def ofK (R : Rec) (H : Heap) (args : List AV) : AV → Option (AV × Heap)
 | .func g caps => xLo R g H ((args ++ caps).flatMap (bor frzN H)) ((args ++ caps).mapM (frz frzN H))
 | _ => none
theorem xCh (args : List AV) (g : Nat) (caps : List AV) : ofK R H args (.func g caps) = xLo R g H ((args ++ caps).flatMap (bor frzN H)) ((args ++ caps).mapM (frz frzN H)) := rfl
theorem xBS (f : Arg) (args : List Arg) : xAg R F H (.ofcall f args) = ofK R H (args.map (opv F)) (opv F f) := by
 simp only [xAg,ofK]
 cases opv F f <;> try rfl
 simp only [xLo]
 split
 ·rename_i e; rw [e]
 ·rename_i args' e
  rw [e]
  simp only [ocK]
  cases xBB R _ args' <;> rfl
def yEZ (H : Heap) (ids : List Nat) : Option (AV × Heap) → Option (AV × Heap)
 | some (v,B) => some (xAP H.length v,fzIds H ids ++ B.map (xC4 H.length))
 | none => none
def xQI (R : Rec) (f : Nat) (H : Heap) (ids : List Nat) : Option (List AV) → Option (AV × Heap)
 | some args' => yEZ H ids (xDb R f args')
 | none => none
theorem xE4 (f : Nat) (args : List Arg) : xAg R F H (.ocallw f args) = xQI R f H ((args.map (opv F)).flatMap (bor frzN H)) ((args.map (opv F)).mapM (frz frzN H)) := by
 simp only [xAg,xQI]
 cases (args.map (opv F)).mapM (frz frzN H) with
 | none => rfl
 | some args' =>
  simp only [yEZ]
  cases xDb R f args' <;> rfl
theorem xC5 (f : Nat) (ids : List Nat) (args' : List AV) : xQI R f H ids (some args') = yEZ H ids (xDb R f args') := rfl
theorem xE5 (ids : List Nat) (v : AV) (B : Heap) : yEZ H ids (some (v,B)) = some (xAP H.length v,fzIds H ids ++ B.map (xC4 H.length)) := rfl
theorem xIZ {f : Nat} {args : List AV} {v : AV} {B : Heap} (h : R.icall (.func f []) args [] = some (v,B)) (h1 : xBm v = true) : xDb R f args = some (v,B) := by
 unfold xDb
 rw [h]
 exact if_pos h1
def t1B (z : Bool) (id off n es : Nat) (B : List (Nat × Blk)) : Option Blk → Option (AV × List (Nat × Blk))
 | some (.cells false z' cs) => if cs.all xAM = true then some (.own z B.length off n es,B ++ [(id,.cells false z' cs)]) else none
 | _ => none
def t1I (z : Bool) (id off n es : Nat) (B : List (Nat × Blk)) (b : Option Blk) : Option Nat → Option (AV × List (Nat × Blk))
 | some k => some (.own z k off n es,B)
 | none => t1B z id off n es B b
theorem xPv (H : Heap) (z : Bool) (id off n es : Nat) (B : List (Nat × Blk)) : xFp H (.own z id off n es) B = t1I z id off n es B H[id]? (B.findIdx? (fun p => p.1 == id)) := by
 simp only [xFp,t1I]
 cases B.findIdx? (fun p => p.1 == id) with
 | some k => rfl
 | none =>
  simp only [t1B]
  cases H[id]? with
  | none => rfl
  | some b => cases b with
   | cells fz z' cs => cases fz <;> rfl
   | _ => rfl
theorem xWF (z : Bool) (id off n es : Nat) (B : List (Nat × Blk)) (b : Option Blk) (k : Nat) : t1I z id off n es B b (some k) = some (.own z k off n es,B) := rfl
theorem xWG (z : Bool) (id off n es : Nat) (B : List (Nat × Blk)) (z' : Bool) (cs : List AV) : t1I z id off n es B (some (.cells false z' cs)) none = if cs.all xAM = true then some (.own z B.length off n es,B ++ [(id,.cells false z' cs)]) else none := rfl
theorem xPw (H : Heap) (k : IntKind) (n : Int) (B : List (Nat × Blk)) : xFp H (.int k n) B = some (.int k n,B) := rfl
theorem xLp (H : Heap) (b : Bool) (B : List (Nat × Blk)) : xFp H (.bool b) B = some (.bool b,B) := rfl
theorem xSH (H : Heap) (z : Bool) (n : Nat) (cs : List AV) (B : List (Nat × Blk)) : xFp H (.sl z n cs) B = some (.sl z n cs,B) := rfl
theorem xPx (H : Heap) (b : ByteArray) (B : List (Nat × Blk)) : xFp H (.str b) B = some (.str b,B) := rfl
def tkL (H : Heap) (vs : List AV) : Option (AV × List (Nat × Blk)) → Option (List AV × List (Nat × Blk))
 | some (v',B') => (xH7 H vs B').map fun (vs',B2) => (v' :: vs',B2)
 | none => none
theorem xPy (H : Heap) (B : List (Nat × Blk)) : xH7 H [] B = some ([],B) := rfl
theorem xLq (H : Heap) (v : AV) (vs : List AV) (B : List (Nat × Blk)) : xH7 H (v :: vs) B = tkL H vs (xFp H v B) := by
 simp only [xH7,tkL]
 cases xFp H v B <;> rfl
theorem xSI (H : Heap) (vs : List AV) (v' : AV) (B' : List (Nat × Blk)) : tkL H vs (some (v',B')) = (xH7 H vs B').map fun (vs',B2) => (v' :: vs',B2) := rfl
theorem xPz (H : Heap) (cs : List AV) (B : List (Nat × Blk)) : xF3 H (.agg cs) B = if cs.all AV.isCell = true then (xH7 H cs B).map fun (cs',B') => (.agg cs',B') else none := rfl
theorem xPA (H : Heap) (z : Bool) (id off n es : Nat) (B : List (Nat × Blk)) : xF3 H (.own z id off n es) B = xFp H (.own z id off n es) B := rfl
theorem xPB (H : Heap) (k : IntKind) (n : Int) (B : List (Nat × Blk)) : xF3 H (.int k n) B = some (.int k n,B) := rfl
theorem xLr (H : Heap) (b : Bool) (B : List (Nat × Blk)) : xF3 H (.bool b) B = some (.bool b,B) := rfl
theorem xSJ (H : Heap) (z : Bool) (n : Nat) (cs : List AV) (B : List (Nat × Blk)) : xF3 H (.sl z n cs) B = some (.sl z n cs,B) := rfl
def yFD (H : Heap) (vs : List AV) : Option (AV × List (Nat × Blk)) → Option (List AV × List (Nat × Blk))
 | some (v',B') => (xEV H vs B').map fun (vs',B2) => (v' :: vs',B2)
 | none => none
theorem xLs (H : Heap) (B : List (Nat × Blk)) : xEV H [] B = some ([],B) := rfl
theorem xI0 (H : Heap) (v : AV) (vs : List AV) (B : List (Nat × Blk)) : xEV H (v :: vs) B = yFD H vs (xF3 H v B) := by
 simp only [xEV,yFD]
 cases xF3 H v B <;> rfl
theorem xPC (H : Heap) (vs : List AV) (v' : AV) (B' : List (Nat × Blk)) : yFD H vs (some (v',B')) = (xEV H vs B').map fun (vs',B2) => (v' :: vs',B2) := rfl
theorem xI1 (H : Heap) (vs : List AV) : xDQ H (.tup vs) = (xEV H vs []).map fun (vs',B) => (.tup vs',B) := rfl
theorem xI2 (H : Heap) (cs : List AV) : xDQ H (.agg cs) = xF3 H (.agg cs) [] := rfl
theorem xI3 (H : Heap) (z : Bool) (id off n es : Nat) : xDQ H (.own z id off n es) = xFp H (.own z id off n es) [] := rfl
theorem xLt (H : Heap) (z : Bool) (n : Nat) (cs : List AV) : xDQ H (.sl z n cs) = some (.sl z n cs,[]) := rfl
theorem xPD {α : Type} (p : α → Bool) : ([] : List α).findIdx? p = none := rfl
theorem xLu {α : Type} (p : α → Bool) (a : α) (l : List α) : (a :: l).findIdx? p = if p a = true then some 0 else (l.findIdx? p).map (· + 1) := by
 rw [List.findIdx?_cons]
def xWH (R : Rec) (als : List (Nat × Nat)) (ls : List (Nat × Nat × Nat × Nat)) (m : Nat) (ops : List AOper) : Option (St × List Pr) → Option (AExit × St)
 | some (s,pl) => xE0 ls (xA9 R (ops.drop m) (xBJ als pl s))
 | none => none
theorem xPE (als : List (Nat × Nat)) (ls : List (Nat × Nat × Nat × Nat)) (m : Nat) (ops : List AOper) : run R (.drawp als ls m ops) s = xWH R als ls m ops (xBa R (ops.take m) s) := by
 simp only [run,xWH]
 cases xBa R (ops.take m) s with
 | none => rfl
 | some r =>
  obtain ⟨s1,pl⟩ := r
  simp only [xE0]
  cases xA9 R (ops.drop m) (xBJ als pl s1) <;> rfl
theorem xI4 (als : List (Nat × Nat)) (ls : List (Nat × Nat × Nat × Nat)) (m : Nat) (ops : List AOper) (s : St) (pl : List Pr) : xWH R als ls m ops (some (s,pl)) = xE0 ls (xA9 R (ops.drop m) (xBJ als pl s)) := rfl
theorem xLv (pl : List Pr) (s : St) : xBJ [] pl s = adoptL pl s := rfl
def alK (als : List (Nat × Nat)) : St → St
 | ⟨F,H⟩ => ⟨xCs als F,H⟩
theorem xI5 (p : Nat × Nat) (r : List (Nat × Nat)) (pl : List Pr) (s : St) : xBJ (p :: r) pl s = alK (p :: r) (adoptL pl s) := rfl
theorem yA4 (als : List (Nat × Nat)) (F : List AV) (H : Heap) : alK als ⟨F,H⟩ = ⟨xCs als F,H⟩ := rfl
theorem xLw (F : List AV) : xCs [] F = F := rfl
theorem xI6 (d q : Nat) (r : List (Nat × Nat)) (F : List AV) : xCs ((d,q) :: r) F = xCs r (F.set d (xYA (q / 4096) (F.getD (q % 4096) .any))) := rfl
theorem xAz (v : AV) : xYA 0 v = v := rfl
theorem xAA (vs : List AV) : xYA 1 (.tup vs) = vs.getD 0 .any := rfl
theorem xAB (vs : List AV) : xYA 2 (.tup vs) = vs.getD 1 .any := rfl
theorem xAC (vs : List AV) : xYA 3 (.tup vs) = vs.getD 2 .any := rfl
theorem xAD (z : Bool) (i o n e : Nat) : xCN (.own z i o n e) = .any := rfl
theorem xAE (i o : Nat) : xCN (.ptr i o) = .any := rfl
theorem xAX (z : Bool) (n : Nat) (cs : List AV) : xCN (.sl z n cs) = .any := rfl
theorem xAF (cs : List AV) : xCN (.agg cs) = .any := rfl
theorem xAG (k : IntKind) (n : Int) : xCN (.int k n) = .any := rfl
theorem xAn (b : Bool) : xCN (.bool b) = .any := rfl
theorem xAH (vs : List AV) : xCN (.tup vs) = .tup (vs.map xEX) := rfl
theorem xAo (z : Bool) (i o n e : Nat) : xEX (.own z i o n e) = .any := rfl
theorem xAp (i o : Nat) : xEX (.ptr i o) = .any := rfl
theorem xAI (z : Bool) (n : Nat) (cs : List AV) : xEX (.sl z n cs) = .any := rfl
theorem xAq (cs : List AV) : xEX (.agg cs) = .any := rfl
theorem xAr (k : IntKind) (n : Int) : xEX (.int k n) = .int k n := rfl
theorem xAk (b : Bool) : xEX (.bool b) = .bool b := rfl
def xWI (e : Pr) : Option (St × List Pr) → Option (St × List Pr)
 | some (s,l) => some (s,e :: l)
 | none => none
theorem xLx (e : Pr) (s : St) (l : List Pr) : xWI e (some (s,l)) = some (s,e :: l) := rfl
def xWJ (R : Rec) (rest : List AOper) (s : St) : Option Nat → Option (AV × List Blk) → Option (St × List Pr)
 | some t,some (v,B) => xWI (some (t,v,B)) (xBa R rest ⟨s.F.set t (xCN v),s.H⟩)
 | _,_ => none
def xWK (R : Rec) (rest : List AOper) : Option St → Option (St × List Pr)
 | some s => xWI none (xBa R rest s)
 | none => none
theorem xI7 : xBa R [] s = some (s,[]) := rfl
theorem xHe (o : AOper) (rest : List AOper) : xBa R (o :: rest) s = if xBe o.op = true then xWJ R rest s o.dst (xDh R s.F o.op) else xWK R rest (xBq R o s) := by
 simp only [xBa]
 split
 ·cases o.dst with
  | none => rfl
  | some t => cases xDh R s.F o.op with
   | none => rfl
   | some r =>
    obtain ⟨v,B⟩ := r
    simp only [xWJ]
    cases xBa R rest ⟨s.F.set t (xCN v),s.H⟩ <;> rfl
 ·cases xBq R o s with
  | none => rfl
  | some s1 =>
   simp only [xWK]
   cases xBa R rest s1 <;> rfl
theorem xI8 (rest : List AOper) (t : Nat) (v : AV) (B : List Blk) : xWJ R rest s (some t) (some (v,B)) = xWI (some (t,v,B)) (xBa R rest ⟨s.F.set t (xCN v),s.H⟩) := rfl
theorem xI9 (rest : List AOper) (s : St) : xWK R rest (some s) = xWI none (xBa R rest s) := rfl
def yCm : Option (AV × Heap) → Option (AV × List Blk)
 | some (v,B) => if xBm v = true ∧ xEW B = true then some (v,B) else none
 | none => none
theorem xSK (op : AOp) : xDh R F op = if op.args.all (fun x => xAT (opv F x)) = true then yCm (xAg R F [] op) else none := by
 unfold xDh yCm
 split
 ·cases xAg R F [] op <;> rfl
 ·rfl
theorem xLy (v : AV) (B : Heap) : yCm (some (v,B)) = if xBm v = true ∧ xEW B = true then some (v,B) else none := rfl
theorem xHf (f : Nat) (as : List Arg) : xBe (.ocall f as) = true := rfl
theorem xBp (f : Arg) (as : List Arg) : xBe (.ofcall f as) = true := rfl
theorem xLz (x : Arg) : xBe (.box x) = true := rfl
theorem xJa (z : List AV) (b : Nat) (x y : Arg) : xBe (.mkslice false z b x y) = true := rfl
theorem xJb (z : List AV) (b : Nat) (x y : Arg) : xBe (.mkslice true z b x y) = false := rfl
theorem xJc (z : List AV) (es n : Nat) (ps : List (Nat × Arg)) : xBe (.bslice false z es n ps) = true := rfl
theorem xJd (z : List AV) (es n : Nat) (ps : List (Nat × Arg)) : xBe (.bslice true z es n ps) = false := rfl
theorem xJe (es b : Nat) (x y : Arg) : xBe (.append false es b x y) = true := rfl
theorem xJf (es b : Nat) (x y : Arg) : xBe (.append true es b x y) = false := rfl
theorem xJg (z : List AV) (b : Nat) (x y : Arg) : xBe (.appendz z b x y) = true := rfl
theorem xLA (x : Arg) : xBe (.mov x) = false := rfl
theorem xJh (x y z : Arg) : xBe (.pick x y z) = false := rfl
theorem xHg (z : List AV) (ps : List (Nat × Nat × Arg)) : xBe (.build z ps) = false := rfl
theorem xJi (g : Bool) (n : Nat) (x : Arg) : xBe (.load g n x) = false := rfl
theorem xGl (x : Arg) : xBe (.nilchk x) = false := rfl
theorem xLB (op : BinOp) (x y : Arg) : xBe (.bin op x y) = false := rfl
theorem xLC (g : Bool) (x y : Arg) : xBe (.beq g x y) = false := rfl
theorem xHh (g : Bool) (x : Arg) : xBe (.isnil g x) = false := rfl
theorem xPF (op : UnOp) (x : Arg) : xBe (.un op x) = false := rfl
theorem xJj (k : IntKind) (x : Arg) : xBe (.conv k x) = false := rfl
theorem xGm (f : Nat) (as : List Arg) : xBe (.mkfunc f as) = false := rfl
theorem xHi (es : Nat) (x : Arg) (a b c : Option Arg) : xBe (.slice es x a b c) = false := rfl
theorem xHj (o : Nat) (x : Arg) : xBe (.faddr o x) = false := rfl
theorem xHk (g : Bool) (o n : Nat) (x : Arg) : xBe (.field g o n x) = false := rfl
theorem xHl (es : Nat) (x i : Arg) : xBe (.iaddr es x i) = false := rfl
theorem xLD (i : Nat) (x : Arg) : xBe (.ext i x) = false := rfl
theorem xLE (x : Arg) : xBe (.len x) = false := rfl
theorem xLF (x : Arg) : xBe (.cap x) = false := rfl
theorem xLG (g : Bool) (n : Nat) (x y : Arg) : xBe (.aeq g n x y) = false := rfl
theorem xJk (f : Nat) (as : List Arg) : xBe (.call f as) = false := rfl
theorem xHm (f : Arg) (as : List Arg) : xBe (.fcall f as) = false := rfl
theorem xJl (x y : Arg) : xBe (.maxi x y) = false := rfl
theorem xJm (x y : Arg) : xBe (.mini x y) = false := rfl
theorem xJn : xEW [] = true := rfl
theorem xHn (z : Bool) (cs : List AV) (B : List Blk) : xEW (.cells false z cs :: B) = (cs.all xAM && xEW B) := rfl
theorem xMn {α : Type} {f : α → AV} (h : ∀ a,xAM (f a) = true) (l : List α) : (l.map f).all xAM = true := by
 simp [List.all_eq_true,h]
end
section
variable {R : Rec} {F : List AV} {H : Heap}
def yE0 (g : Bool) (es len : Nat) : AV → AV → Option AV
 | .agg cs,.int _ i => if 0 ≤ i ∧ i.toNat < len ∧ i.toNat * es + es ≤ cs.length then mkv g ((cs.drop (i.toNat * es)).take es) else none
 | _,_ => none
theorem xSL {g : Bool} {es len : Nat} {cs : List AV} {k : IntKind} {i : Int} (h0 : 0 ≤ i) (h : i < len) (h2 : i.toNat * es + es ≤ cs.length) : yE0 g es len (.agg cs) (.int k i) = mkv g ((cs.drop (i.toNat * es)).take es) := if_pos ⟨h0,by omega,h2⟩
theorem yA5 (g : Bool) (es len : Nat) (x i : Arg) : xAg R F H (.idx g es len x i) = xDi H (yE0 g es len (opv F x) (opv F i)) := by
 simp only [xAg]
 cases opv F x with
 | agg cs => cases opv F i with
  | int k n =>
   by_cases h0 : 0 ≤ n
   ·have e : xBR (.int k n) = some n.toNat := by simp [xBR,h0]
    simp only [e,yE0,h0,true_and]
    by_cases c : n.toNat < len ∧ n.toNat * es + es ≤ cs.length
    ·rw [if_pos c,if_pos c]
     cases mkv g ((cs.drop (n.toNat * es)).take es) <;> rfl
    ·rw [if_neg c,if_neg c]; rfl
   ·have e : xBR (.int k n) = none := by simp [xBR,h0]
    simp only [e,yE0,h0,false_and,if_false,xDi]
  | _ => rfl
 | _ => rfl
def xJo (es len : Nat) : AV → AV → Option AV
 | .ptr id off,.int _ i => if 0 ≤ i ∧ i.toNat < len then some (.ptr id (off + i.toNat * es)) else none
 | .vptr cs off,.int _ i => if 0 ≤ i ∧ i.toNat < len then some (.vptr cs (off + i.toNat * es)) else none
 | _,_ => none
theorem xLH {es len id off : Nat} {k : IntKind} {i : Int} (h0 : 0 ≤ i) (h : i < len) : xJo es len (.ptr id off) (.int k i) = some (.ptr id (off + i.toNat * es)) := if_pos ⟨h0,by omega⟩
theorem xJp {es len off : Nat} {cs : List AV} {k : IntKind} {i : Int} (h0 : 0 ≤ i) (h : i < len) : xJo es len (.vptr cs off) (.int k i) = some (.vptr cs (off + i.toNat * es)) := if_pos ⟨h0,by omega⟩
theorem xSM (es len : Nat) (x i : Arg) : xAg R F H (.arrat es len x i) = xDi H (xJo es len (opv F x) (opv F i)) := by
 simp only [xAg]
 cases opv F x with
 | ptr id off => cases opv F i with
  | int k n =>
   by_cases h0 : 0 ≤ n
   ·have e : xBR (.int k n) = some n.toNat := by simp [xBR,h0]
    simp only [e,xJo,h0,true_and]
    by_cases c : n.toNat < len
    ·rw [if_pos c,if_pos c]; rfl
    ·rw [if_neg c,if_neg c]; rfl
   ·have e : xBR (.int k n) = none := by simp [xBR,h0]
    simp only [e,xJo,h0,false_and,if_false,xDi]
  | _ => rfl
 | vptr cs off => cases opv F i with
  | int k n =>
   by_cases h0 : 0 ≤ n
   ·have e : xBR (.int k n) = some n.toNat := by simp [xBR,h0]
    simp only [e,xJo,h0,true_and]
    by_cases c : n.toNat < len
    ·rw [if_pos c,if_pos c]; rfl
    ·rw [if_neg c,if_neg c]; rfl
   ·have e : xBR (.int k n) = none := by simp [xBR,h0]
    simp only [e,xJo,h0,false_and,if_false,xDi]
  | _ => rfl
 | _ => rfl
def xZi (es len : Nat) : Option (List AV) → AV → Option AV
 | some cs,.int _ i => if 0 ≤ i ∧ i.toNat < len then some (.vptr cs (i.toNat * es)) else none
 | _,_ => none
theorem xLI {es len : Nat} {cs : List AV} {k : IntKind} {i : Int} (h0 : 0 ≤ i) (h : i < len) : xZi es len (some cs) (.int k i) = some (.vptr cs (i.toNat * es)) := if_pos ⟨h0,by omega⟩
theorem xWL (b es len : Nat) (i : Arg) : xAg R F H (.garr b es len i) = xDi H (xZi es len (xTR b) (opv F i)) := by
 simp only [xAg]
 cases xTR b with
 | none => rfl
 | some cs => cases opv F i with
  | int k n =>
   by_cases h0 : 0 ≤ n
   ·have e : xBR (.int k n) = some n.toNat := by simp [xBR,h0]
    simp only [e,xZi,h0,true_and]
    by_cases c : n.toNat < len
    ·rw [if_pos c,if_pos c]; rfl
    ·rw [if_neg c,if_neg c]; rfl
   ·have e : xBR (.int k n) = none := by simp [xBR,h0]
    simp only [e,xZi,h0,false_and,if_false,xDi]
  | _ => rfl
def yD9 : AV → Option AV
 | .str s => some (.int .i64 s.size)
 | _ => none
theorem xPG (s : ByteArray) : yD9 (.str s) = some (.int .i64 s.size) := rfl
theorem xWM (x : Arg) : xAg R F H (.slen x) = xDi H (yD9 (opv F x)) := by
 simp only [xAg]
 cases opv F x <;> rfl
theorem yA6 (g : Bool) (es len : Nat) (x i : Arg) : xBu R F H (.idx g es len x i) = xEr H (xAg R F H (.idx g es len x i)) := xCP _ rfl
theorem xSN (es len : Nat) (x i : Arg) : xBu R F H (.arrat es len x i) = xEr H (xAg R F H (.arrat es len x i)) := xCP _ rfl
theorem xWN (b es len : Nat) (i : Arg) : xBu R F H (.garr b es len i) = xEr H (xAg R F H (.garr b es len i)) := xCP _ rfl
theorem xBP (mx : Bool) (x : Arg) (xs : List Arg) : xAg R F H (.mm mx (x :: xs)) = xDi H (mmA mx (opv F x) (xs.map (opv F))) := by
 simp only [xAg,List.map_cons,xDi]
 cases mmA mx (opv F x) (xs.map (opv F)) <;> rfl
theorem xBg (mx : Bool) (k : IntKind) (a : Int) : mmA mx (.int k a) [] = some (.int k a) := rfl
theorem xBh (k k' : IntKind) (a b : Int) (r : List AV) : mmA false (.int k a) (.int k' b :: r) = mmA false (.int k (min a b)) r := by
 simp only [mmA,Bool.false_eq_true,if_false]
 congr 2; split <;> omega
theorem xBi (k k' : IntKind) (a b : Int) (r : List AV) : mmA true (.int k a) (.int k' b :: r) = mmA true (.int k (max a b)) r := by
 simp only [mmA,if_true]
 congr 2; split <;> omega
theorem xBQ (mx : Bool) (xs : List Arg) : xBu R F H (.mm mx xs) = xEr H (xAg R F H (.mm mx xs)) := xCP _ rfl
theorem xA0 (mx : Bool) (xs : List Arg) : xBe (.mm mx xs) = false := rfl
theorem xWO (x : Arg) : xBu R F H (.slen x) = xEr H (xAg R F H (.slen x)) := xCP _ rfl
end
end Go.Abs
