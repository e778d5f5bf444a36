/- The interpreter's equations in the form that simp walks by: one equation for each construct,told apart by what has been computed already. -/
import Derived.Test.YtdheandekcpieaaDoorAbsLim
namespace Go.Abs
set_option linter.unusedVariables false
set_option linter.unusedSimpArgs false
theorem xD2 : ∀ (scr : List Nat) (F : List AV) (i : Nat),(xAu scr F)[i]? = if i ∈ scr then (F[i]?).map (fun _ => AV.any) else F[i]?
 | [],F,i => by simp [xAu]
 | j :: scr,F,i => by
  have := xD2 scr (F.set j .any) i
  simp only [xAu,List.foldl_cons] at this ⊢
  rw [this]
  by_cases h : i = j
  ·subst h
   simp only [List.getElem?_set_self',List.mem_cons,true_or,if_true]
   cases F[i]? <;> simp
  ·have h' : ¬ j = i := fun e => h e.symm
   simp [List.getElem?_set,h,h']
theorem xM7 (scr : List Nat) (F : List AV) : xAu scr (xAu scr F) = xAu scr F := by
 apply List.ext_getElem?
 intro i
 rw [xD2,xD2]
 split
 ·cases F[i]? <;> rfl
 ·rfl
section
variable {prog : Nat → Option AFunc}
theorem xRz (prog : Nat → Option AFunc) (n : Nat) : Tends (fix prog n) (fun _ => lim prog) :=
 ⟨fun f a v h => .all fun _ => xEi ((xEG prog n).pcall f a v h),fun f a H v h => .all fun _ => xEi ((xEG prog n).icall f a H v h),fun scr b s v h => .all fun _ => xEi ((xEG prog n).loop scr b s v h)⟩
theorem Ev.const {p : Prop} (h : Ev fun _ => p) : p := let ⟨n,hn⟩ := h; hn n (Nat.le_refl n)
theorem xRA {α : Type} {a b : Option α} (h1 : ∀ v,a = some v → b = some v) (h2 : ∀ v,b = some v → a = some v) : a = b := by
 cases a with
 | some v => exact (h1 v rfl).symm
 | none =>
  cases b with
  | none => rfl
  | some v => exact h2 v rfl
theorem xAi {f : Nat} {fn : AFunc} (hf : prog f = some fn) (args : List AV) : (lim prog).pcall f args = xAz (lim prog) fn args := by
 refine xRA (fun v h => ?_) (fun v h => xQq hf h)
 obtain ⟨n,hn⟩ := xBW (p := fun m => (fix prog m).pcall f args) h
 have h1 : (xCE prog (fix prog n)).pcall f args = some v := hn (n + 1) (by omega)
 have h2 := (xBh (xRz prog n) prog).pcall f args v h1 |>.const
 simp only [xCE,hf] at h2
 exact h2
theorem xK7 (f : AV) (args : List AV) (H : Heap) : (lim prog).icall f args H = xCP prog (lim prog) f args H := by
 refine xRA (fun v h => ?_) (fun v h => xQr h)
 obtain ⟨n,hn⟩ := xBW (p := fun m => (fix prog m).icall f args H) h
 have h1 : (xCE prog (fix prog n)).icall f args H = some v := hn (n + 1) (by omega)
 exact (xBh (xRz prog n) prog).icall f args H v h1 |>.const
theorem xEt (scr : List Nat) (b : ACode) (s : St) : (lim prog).loop scr b s = xG2 (lim prog) scr b s := by
 refine xRA (fun v h => ?_) (fun v h => xT4 h)
 obtain ⟨n,hn⟩ := xBW (p := fun m => (fix prog m).loop scr b s) h
 have h1 : (xCE prog (fix prog n)).loop scr b s = some v := hn (n + 1) (by omega)
 exact (xBh (xRz prog n) prog).loop scr b s v h1 |>.const
theorem xAj {f : Nat} {fn : AFunc} (hf : prog f = some fn) (caps args : List AV) (H : Heap) : (lim prog).icall (.func f caps) args H = xAX (lim prog) fn (args ++ caps) H := by
 rw [xK7]
 simp only [xCP,hf]
theorem xEc (scr : List Nat) (b : ACode) (F : List AV) (H : Heap) : (lim prog).loop scr b ⟨F,H⟩ = (lim prog).loop scr b ⟨xAu scr F,H⟩ := by
 rw [xEt,xEt]
 unfold xG2
 simp only [xM7]
def xA9 (R : Rec) (scr : List Nat) (b : ACode) : Option (AExit × St) → Option (AExit × St)
 | some (.normal,s) => R.loop scr b ⟨xAu scr s.F,s.H⟩
 | some (e,s) => some (e,⟨xAu scr s.F,s.H⟩)
 | none => none
theorem xAh (scr : List Nat) (b : ACode) (F : List AV) (H : Heap) (h : xAu scr F = F) : (lim prog).loop scr b ⟨F,H⟩ = xA9 (lim prog) scr b (run (lim prog) b ⟨F,H⟩) := by
 rw [xEt]
 unfold xG2 xA9
 simp only [h]
 split
 ·rename_i s' hs
  rw [hs]
  exact xEc scr b s'.F s'.H
 ·rename_i e s' hne hs
  rw [hs]
  cases e with
  | normal => exact (hne rfl).elim
  | exit i => rfl
  | ret => rfl
 ·rename_i hs
  rw [hs]
theorem xN9 (scr : List Nat) (b : ACode) (F : List AV) (H : Heap) : run (lim prog) (.loop scr b) ⟨F,H⟩ = (lim prog).loop scr b ⟨xAu scr F,H⟩ := xEc scr b F H
end
section
variable {R : Rec} {F : List AV} {H : Heap} {s : St}
def xUQ (R : Rec) (b : ACode) : Option (AExit × St) → Option (AExit × St)
 | some (.normal,s) => run R b s
 | r => r
theorem xRB (a b : ACode) : run R (.seq a b) s = xUQ R b (run R a s) := by
 simp only [run,xUQ]
 split <;> simp_all
theorem xHb (b : ACode) (s : St) : xUQ R b (some (.normal,s)) = run R b s := rfl
theorem xK8 (b : ACode) (i : Nat) (s : St) : xUQ R b (some (.exit i,s)) = some (.exit i,s) := rfl
theorem xOa (b : ACode) (s : St) : xUQ R b (some (.ret,s)) = some (.ret,s) := rfl
theorem xK9 (b : ACode) : xUQ R b none = none := rfl
theorem xOb (b : ACode) {c : Prop} [Decidable c] (x y : Option (AExit × St)) : xUQ R b (if c then x else y) = if c then xUQ R b x else xUQ R b y := by split <;> rfl
def xXh (R : Rec) (a b : ACode) (s : St) : AV → Option (AExit × St)
 | .bool t => if t = true then run R a s else run R b s
 | _ => none
theorem xOc (c : Arg) (a b : ACode) (F : List AV) (H : Heap) : run R (.cond c a b) ⟨F,H⟩ = xXh R a b ⟨F,H⟩ (opv F c) := by
 simp only [run,xXh]
 split <;> simp_all
theorem xIu (a b : ACode) (t : Bool) : xXh R a b s (.bool t) = if t = true then run R a s else run R b s := rfl
def xF4 (id : Nat) : Option (AExit × St) → Option (AExit × St)
 | some (.exit i,s) => if i = id then some (.normal,s) else some (.exit i,s)
 | r => r
theorem xLa (id : Nat) (b : ACode) : run R (.block id b) s = xF4 id (run R b s) := by
 simp only [run,xF4]
 split <;> simp_all
theorem xHc (id i : Nat) (s : St) : xF4 id (some (.exit i,s)) = if i = id then some (.normal,s) else some (.exit i,s) := rfl
theorem xEY (id : Nat) (s : St) : xF4 id (some (.normal,s)) = some (.normal,s) := rfl
theorem xIv (id : Nat) (s : St) : xF4 id (some (.ret,s)) = some (.ret,s) := rfl
theorem xIw (id : Nat) {c : Prop} [Decidable c] (x y : Option (AExit × St)) : xF4 id (if c then x else y) = if c then xF4 id x else xF4 id y := by split <;> rfl
theorem xF5 (scr : List Nat) (b : ACode) (F : List AV) (H : Heap) : xA9 R scr b (some (.normal,⟨F,H⟩)) = R.loop scr b ⟨xAu scr F,H⟩ := rfl
theorem xIx (scr : List Nat) (b : ACode) (i : Nat) (F : List AV) (H : Heap) : xA9 R scr b (some (.exit i,⟨F,H⟩)) = some (.exit i,⟨xAu scr F,H⟩) := rfl
theorem xLb (scr : List Nat) (b : ACode) (F : List AV) (H : Heap) : xA9 R scr b (some (.ret,⟨F,H⟩)) = some (.ret,⟨xAu scr F,H⟩) := rfl
theorem xLc (scr : List Nat) (b : ACode) {c : Prop} [Decidable c] (x y : Option (AExit × St)) : xA9 R scr b (if c then x else y) = if c then xA9 R scr b x else xA9 R scr b y := by split <;> rfl
def xT2 : Option St → Option (AExit × St)
 | some s => some (.normal,s)
 | none => none
theorem xLd (s : St) : xT2 (some s) = some (.normal,s) := rfl
theorem xLe : xT2 none = none := rfl
theorem xOd {c : Prop} [Decidable c] (x y : Option St) : xT2 (if c then x else y) = if c then xT2 x else xT2 y := by split <;> rfl
theorem xIy (ops : List AOper) : run R (.region ops) s = xT2 (xAp R ops s) := by
 simp only [run,xT2]
 cases xAp R ops s <;> rfl
theorem xOe : run R .skip s = some (.normal,s) := rfl
theorem xOf (i : Nat) : run R (.exit i) s = some (.exit i,s) := rfl
theorem xRC : run R .ret s = some (.ret,s) := rfl
def xXi (R : Rec) (rest : List AOper) : Option St → Option St
 | some s => xAp R rest s
 | none => none
theorem xIz : xAp R [] s = some s := rfl
theorem xHd (o : AOper) (rest : List AOper) : xAp R (o :: rest) s = xXi R rest (xAy R o s) := by
 simp only [xAp,xXi]
 cases xAy R o s <;> rfl
theorem xLf (rest : List AOper) (s : St) : xXi R rest (some s) = xAp R rest s := rfl
theorem xLg (rest : List AOper) : xXi R rest none = none := rfl
theorem xOg (rest : List AOper) {c : Prop} [Decidable c] (x y : Option St) : xXi R rest (if c then x else y) = if c then xXi R rest x else xXi R rest y := by split <;> rfl
def xRD (F : List AV) (d : Option Nat) : Option (AV × Heap) → Option St
 | some (v,H) => some ⟨putA F d v,H⟩
 | none => none
theorem xRE (d : Nat) (v : AV) : xRD F (some d) (some (v,H)) = some ⟨F.set d v,H⟩ := rfl
theorem xRF (v : AV) : xRD F none (some (v,H)) = some ⟨F,H⟩ := rfl
theorem xLh (d : Option Nat) : xRD F d none = none := rfl
theorem xOh (d : Option Nat) {c : Prop} [Decidable c] (x y : Option (AV × Heap)) : xRD F d (if c then x else y) = if c then xRD F d x else xRD F d y := by split <;> rfl
theorem xLi (d : Option Nat) (op : AOp) : xAy R ⟨d,op,none⟩ ⟨F,H⟩ = xRD F d (xAa R F H op) := by
 simp only [xAy,xBt,xRD]
 cases xAa R F H op <;> rfl
def xOi (R : Rec) (d : Option Nat) (op : AOp) (w : Bool) (F : List AV) (H : Heap) : AV → Option St
 | .bool b => if b = w then xRD F d (xAa R F H op) else some ⟨putA F d (.tup []),H⟩
 | .any => none
 | _ => some ⟨putA F d (.tup []),H⟩
theorem xIA (d : Option Nat) (op : AOp) (t : Nat) (w : Bool) : xAy R ⟨d,op,some (t,w)⟩ ⟨F,H⟩ = xOi R d op w F H (F.getD t .any) := by
 simp only [xAy,xBt,xOi]
 cases F.getD t .any with
 | bool b =>
  cases b <;> cases w <;> simp [xRD] <;> cases xAa R F H op <;> rfl
 | _ => rfl
theorem xHe (d : Option Nat) (op : AOp) (w b : Bool) : xOi R d op w F H (.bool b) = if b = w then xRD F d (xAa R F H op) else some ⟨putA F d (.tup []),H⟩ := rfl
theorem xIB (d : Option Nat) (op : AOp) (w : Bool) (vs : List AV) : xOi R d op w F H (.tup vs) = some ⟨putA F d (.tup []),H⟩ := rfl
theorem xRG (d : Nat) (v : AV) : putA F (some d) v = F.set d v := rfl
def xXj (R : Rec) (m : Nat) (ops : List AOper) : Option St → Option (AExit × St)
 | some s => xT2 (xAp R (ops.drop m) (adopt (ops.take m) s))
 | none => none
theorem xOj (m : Nat) (ops : List AOper) : run R (.draw m ops) s = xXj R m ops (xAU R (ops.take m) s) := by
 simp only [run,xXj]
 cases xAU R (ops.take m) s with
 | none => rfl
 | some s1 =>
  simp only [xT2]
  cases xAp R (ops.drop m) (adopt (ops.take m) s1) <;> rfl
theorem xIC (m : Nat) (ops : List AOper) (s : St) : xXj R m ops (some s) = xT2 (xAp R (ops.drop m) (adopt (ops.take m) s)) := rfl
def xOk (ls : List (Nat × Nat × Nat × Nat)) : Option St → Option (AExit × St)
 | some s => if ls.all (apart s.F) = true then some (.normal,s) else none
 | none => none
def xRH (R : Rec) (ls : List (Nat × Nat × Nat × Nat)) (m : Nat) (ops : List AOper) : Option St → Option (AExit × St)
 | some s => xOk ls (xAp R (ops.drop m) (adopt (ops.take m) s))
 | none => none
theorem xLj (ls : List (Nat × Nat × Nat × Nat)) (m : Nat) (ops : List AOper) : run R (.drawl ls m ops) s = xRH R ls m ops (xAU R (ops.take m) s) := by
 simp only [run,xRH]
 cases xAU R (ops.take m) s with
 | none => rfl
 | some s1 =>
  simp only [xOk]
  cases xAp R (ops.drop m) (adopt (ops.take m) s1) <;> rfl
theorem xHf (ls : List (Nat × Nat × Nat × Nat)) (m : Nat) (ops : List AOper) (s : St) : xRH R ls m ops (some s) = xOk ls (xAp R (ops.drop m) (adopt (ops.take m) s)) := rfl
theorem xHg (ls : List (Nat × Nat × Nat × Nat)) (s : St) : xOk ls (some s) = if ls.all (apart s.F) = true then some (.normal,s) else none := rfl
def xXk (R : Rec) (rest : List AOper) : Option St → Option St
 | some s => xAU R rest s
 | none => none
theorem xHh : xAU R [] s = some s := rfl
theorem xF6 (o : AOper) (rest : List AOper) : xAU R (o :: rest) s = xXk R rest (xAG R o s) := by
 simp only [xAU,xXk]
 cases xAG R o s <;> rfl
theorem xID (rest : List AOper) (s : St) : xXk R rest (some s) = xAU R rest s := rfl
def xP8 (F : List AV) (d : Option Nat) (H : Heap) : Option (AV × Heap) → Option St
 | some (v,_) => some ⟨putA F d v,H⟩
 | none => none
theorem xOl (d : Nat) (v : AV) (H' : Heap) : xP8 F (some d) H (some (v,H')) = some ⟨F.set d v,H⟩ := rfl
def xBa (R : Rec) (F : List AV) (H : Heap) (op : AOp) : Option (AV × Heap) := (xAr R F H op).map fun v => (v,H)
theorem xIE (d : Option Nat) (op : AOp) : xAG R ⟨d,op,none⟩ ⟨F,H⟩ = xP8 F d H (xBa R F H op) := by
 simp only [xAG,xBt,xP8,xBa]
 cases xAr R F H op <;> rfl
def xM8 (R : Rec) (d : Option Nat) (op : AOp) (w : Bool) (F : List AV) (H : Heap) : AV → Option St
 | .bool b => if b = w then xP8 F d H (xBa R F H op) else some ⟨putA F d (.tup []),H⟩
 | .any => none
 | _ => some ⟨putA F d (.tup []),H⟩
theorem xHi (d : Option Nat) (op : AOp) (t : Nat) (w : Bool) : xAG R ⟨d,op,some (t,w)⟩ ⟨F,H⟩ = xM8 R d op w F H (F.getD t .any) := by
 simp only [xAG,xBt,xM8]
 cases F.getD t .any with
 | bool b =>
  cases b <;> cases w <;> simp [xP8,xBa] <;> cases xAr R F H op <;> rfl
 | _ => rfl
theorem xF7 (d : Option Nat) (op : AOp) (w b : Bool) : xM8 R d op w F H (.bool b) = if b = w then xP8 F d H (xBa R F H op) else some ⟨putA F d (.tup []),H⟩ := rfl
def xCT (H : Heap) : Option AV → Option (AV × Heap)
 | some v => some (v,H)
 | none => none
theorem xLk (v : AV) : xCT H (some v) = some (v,H) := rfl
theorem xVF (x : Arg) : xAa R F H (.mov x) = some (opv F x,H) := rfl
def xXl : AV → AV → AV → Option AV
 | .bool t,a,b => some (if t = true then a else b)
 | _,_,_ => none
theorem xIF (t : Bool) (a b : AV) : xXl (.bool t) a b = some (if t = true then a else b) := rfl
theorem xRI (c a b : Arg) : xAa R F H (.pick c a b) = xCT H (xXl (opv F c) (opv F a) (opv F b)) := by
 simp only [xAa,xXl,xCT]
 split <;> simp_all
theorem xVG (x : Arg) : xAa R F H (.box x) = if (opv F x).cells.all AV.isCell = true then some (.ptr H.length 0,H ++ [.cells false false (opv F x).cells]) else none := rfl
theorem xOm (z : List AV) (parts : List (Nat × Nat × Arg)) : xAa R F H (.build z parts) =
  if parts.all (fun p => (opv F p.2.2).cells.length == p.2.1) = true then xCT H ((fillA z (parts.map fun p => (p.1,(opv F p.2.2).cells))).map AV.agg) else none := by
 simp only [xAa,xCT]
 split
 ·cases fillA z (parts.map fun p => (p.1,(opv F p.2.2).cells)) <;> rfl
 ·rfl
def yA7 (fz z : Bool) (n es : Nat) (H : Heap) : Option (List AV) → Option (AV × Heap)
 | some cs => xDJ fz z n es cs H
 | none => none
theorem xLl (fz z : Bool) (n es : Nat) (cs : List AV) : yA7 fz z n es H (some cs) = xDJ fz z n es cs H := rfl
theorem xOn (z : Bool) (n es : Nat) (cs : List AV) : xDJ false z n es cs H = some (.own z H.length 0 n es,H ++ [.cells false z cs]) := rfl
def slK (z : Bool) (n : Nat) : Option (List AV) → Option AV
 | some cs => some (.sl z n cs)
 | none => none
theorem xOo (z : Bool) (n : Nat) (cs : List AV) : slK z n (some cs) = some (.sl z n cs) := rfl
theorem xLm (z : Bool) (n es : Nat) (cs : List AV) : xDJ true z n es cs H = if (cs.flatMap (bor frzN H)).isEmpty = true then xCT H (slK z n (cs.mapM (frz frzN H))) else none := by
 simp only [xDJ,xCT,slK]
 split
 ·rename_i h
  cases cs.mapM (frz frzN H) <;> simp_all
 ·simp_all
theorem xLn (fz : Bool) (z : List AV) (es n : Nat) (parts : List (Nat × Arg)) : xAa R F H (.bslice fz z es n parts) =
  if parts.all (fun p => (opv F p.2).cells.length == es) = true then yA7 fz false n es H (fillA (xCD z n) (parts.map fun p => (p.1 * es,(opv F p.2).cells))) else none := by
 simp only [xAa,yA7]
 split
 ·cases fillA (xCD z n) (parts.map fun p => (p.1 * es,(opv F p.2).cells)) <;> rfl
 ·rfl
def xUR (g : Bool) : Option (List AV) → Option AV
 | some cs => mkv g cs
 | none => none
theorem xRJ (v : AV) : xUR false (some [v]) = some v := rfl
theorem xRK (cs : List AV) : xUR true (some cs) = some (.agg cs) := rfl
theorem xRL (g : Bool) (n : Nat) (p : Arg) : xAa R F H (.load g n p) = xCT H (xUR g (rd H (opv F p) n)) := by
 simp only [xAa,xCT,xUR]
 cases rd H (opv F p) n with
 | none => rfl
 | some cs => simp only; cases mkv g cs <;> rfl
def rdK (off n : Nat) : Option Blk → Option (List AV)
 | some (.cells _ _ cs) => if off + n ≤ cs.length then some ((cs.drop off).take n) else none
 | _ => none
theorem xVH (id off n : Nat) : rd H (.ptr id off) n = rdK off n H[id]? := by
 simp only [rd,rdK]
 rfl
theorem xLo {off n : Nat} {fz z : Bool} {cs : List AV} (h : off + n ≤ cs.length) : rdK off n (some (.cells fz z cs)) = some ((cs.drop off).take n) := if_pos h
theorem xRM {off n : Nat} {cs : List AV} (h : off + n ≤ cs.length) : rd H (.vptr cs off) n = some ((cs.drop off).take n) := if_pos h
def wrK (H : Heap) (id off : Nat) (vs : List AV) : Option Blk → Option Heap
 | some (.cells false z cs) => if off + vs.length ≤ cs.length ∧ vs.all AV.isCell = true then some (H.set id (.cells false z (splice cs off vs))) else none
 | _ => none
theorem xVI (id off : Nat) (vs : List AV) : wr H (.ptr id off) vs = wrK H id off vs H[id]? := by
 simp only [wr,wrK]
 rfl
theorem xHj {id off : Nat} {vs : List AV} {z : Bool} {cs : List AV} (h : off + vs.length ≤ cs.length) (h2 : vs.all AV.isCell = true) : wrK H id off vs (some (.cells false z cs)) = some (H.set id (.cells false z (splice cs off vs))) := if_pos ⟨h,h2⟩
def xRN : Option Heap → Option (AV × Heap)
 | some H => some (.tup [],H)
 | none => none
theorem xHk (H : Heap) : xRN (some H) = some (.tup [],H) := rfl
theorem xOp (n : Nat) (p v : Arg) : xAa R F H (.store n p v) = if (opv F v).cells.length = n then xRN (wr H (opv F p) (opv F v).cells) else none := by
 simp only [xAa,xRN]
 split
 ·cases wr H (opv F p) (opv F v).cells <;> rfl
 ·rfl
def yA8 : AV → Option AV
 | .ptr id off => some (.ptr id off)
 | .vptr cs off => some (.vptr cs off)
 | .func f caps => some (.func f caps)
 | .yield l => some (.yield l)
 | _ => none
theorem xOq (id off : Nat) : yA8 (.ptr id off) = some (.ptr id off) := rfl
theorem xLp (cs : List AV) (off : Nat) : yA8 (.vptr cs off) = some (.vptr cs off) := rfl
theorem xLq (x : Arg) : xAa R F H (.nilchk x) = xCT H (yA8 (opv F x)) := by
 simp only [xAa]
 cases opv F x <;> rfl
theorem xVJ (op : BinOp) (x y : Arg) : xAa R F H (.bin op x y) = xCT H (xDI op (opv F x) (opv F y)) := by
 simp only [xAa,xCT]
 cases xDI op (opv F x) (opv F y) <;> rfl
section
variable (k : IntKind) (a b : Int)
theorem xRO : xDI .add (.int k a) (.int k b) = some (.int k (k.wrap (a + b))) := by simp [xDI]
theorem xRP : xDI .sub (.int k a) (.int k b) = some (.int k (k.wrap (a - b))) := by simp [xDI]
theorem xRQ : xDI .mul (.int k a) (.int k b) = some (.int k (k.wrap (a * b))) := by simp [xDI]
theorem xRR (h : b ≠ 0) : xDI .quo (.int k a) (.int k b) = some (.int k (k.wrap (a.tdiv b))) := by simp [xDI,h]
theorem xRS (h : b ≠ 0) : xDI .rem (.int k a) (.int k b) = some (.int k (a.tmod b)) := by simp [xDI,h]
theorem xRT : xDI .and (.int k a) (.int k b) = some (.int k (xDj .and k a b)) := by simp [xDI]
theorem xVK : xDI .or (.int k a) (.int k b) = some (.int k (xDj .or k a b)) := by simp [xDI]
theorem xRU (k' : IntKind) (h : 0 ≤ b) : xDI .shl (.int k a) (.int k' b) = some (.int k (k.wrap (a * 2 ^ (min b.toNat k.bits)))) := by simp only [xDI]; rw [if_neg (by omega)]
theorem xRV (k' : IntKind) (h : 0 ≤ b) : xDI .shr (.int k a) (.int k' b) = some (.int k (a.fdiv (2 ^ (min b.toNat k.bits)))) := by simp only [xDI]; rw [if_neg (by omega)]
theorem xRW : xDI .eql (.int k a) (.int k b) = some (.bool (decide (a = b))) := by simp [xDI]; rfl
theorem xRX : xDI .neq (.int k a) (.int k b) = some (.bool (!decide (a = b))) := by simp [xDI]; rfl
theorem xRY : xDI .lss (.int k a) (.int k b) = some (.bool (decide (a < b))) := by simp [xDI]
theorem xRZ : xDI .leq (.int k a) (.int k b) = some (.bool (decide (a ≤ b))) := by simp [xDI]
theorem xR0 : xDI .gtr (.int k a) (.int k b) = some (.bool (decide (b < a))) := by simp [xDI]
theorem xR1 : xDI .geq (.int k a) (.int k b) = some (.bool (decide (b ≤ a))) := by simp [xDI]
end
def yCo (neg : Bool) : AV → AV → Option AV
 | .bool a,.bool b => some (.bool (if neg = true then a != b else a == b))
 | _,_ => none
theorem xVL (a b : Bool) : yCo true (.bool a) (.bool b) = some (.bool (!decide (a = b))) := by cases a <;> cases b <;> rfl
theorem xVM (neg : Bool) (x y : Arg) : xAa R F H (.beq neg x y) = xCT H (yCo neg (opv F x) (opv F y)) := by
 simp only [xAa]
 cases opv F x <;> cases opv F y <;> rfl
def xR2 (neg : Bool) : AV → Option AV
 | .sl z _ _ => some (.bool (z != neg))
 | .own z _ _ _ _ => some (.bool (z != neg))
 | _ => none
theorem xIG (z : Bool) (n : Nat) (cs : List AV) : xR2 false (.sl z n cs) = some (.bool z) := by cases z <;> rfl
theorem xHl (z : Bool) (id off n es : Nat) : xR2 false (.own z id off n es) = some (.bool z) := by cases z <;> rfl
theorem xOr (neg : Bool) (x : Arg) : xAa R F H (.isnil neg x) = xCT H (xR2 neg (opv F x)) := by
 simp only [xAa]
 cases opv F x <;> rfl
theorem xZk (op : UnOp) (x : Arg) : xAa R F H (.un op x) = xCT H (unA op (opv F x)) := by
 simp only [xAa,xCT]
 cases unA op (opv F x) <;> rfl
theorem xVN (b : Bool) : unA .not (.bool b) = some (.bool !b) := rfl
theorem xVO (k : IntKind) (n : Int) : unA .xor (.int k n) = some (.int k (xDj .xor k (if k.signed then -1 else k.max) n)) := rfl
def xZl (k : IntKind) : AV → Option AV
 | .int _ n => some (.int k (k.wrap n))
 | _ => none
theorem xLr (k k' : IntKind) (n : Int) : xZl k (.int k' n) = some (.int k (k.wrap n)) := rfl
theorem xR3 (k : IntKind) (x : Arg) : xAa R F H (.conv k x) = xCT H (xZl k (opv F x)) := by
 simp only [xAa]
 cases opv F x <;> rfl
theorem xLs (f : Nat) (caps : List Arg) : xAa R F H (.mkfunc f caps) = some (.func f (caps.map (opv F)),H) := rfl
def yCp (fz : Bool) (z : List AV) (bytes : Nat) (H : Heap) : AV → AV → Option (AV × Heap)
 | .int _ l,.int _ c => if 0 ≤ l ∧ l ≤ c ∧ c * bytes ≤ xAO ∧ c ≤ xAO ∧ z.all AV.isCell = true then xDJ fz false l.toNat z.length (xCD z l.toNat) H else none
 | _,_ => none
theorem xOs (fz : Bool) (z : List AV) (bytes : Nat) (k k' : IntKind) {l c : Int} (h1 : 0 ≤ l) (h2 : l ≤ c) (h3 : c * bytes ≤ 140737488355328) (h4 : c ≤ 140737488355328) (h5 : z.all AV.isCell = true) : yCp fz z bytes H (.int k l) (.int k' c) = xDJ fz false l.toNat z.length (xCD z l.toNat) H := if_pos ⟨h1,h2,h3,h4,h5⟩
theorem xIH (fz : Bool) (z : List AV) (bytes : Nat) (l c : Arg) : xAa R F H (.mkslice fz z bytes l c) = yCp fz z bytes H (opv F l) (opv F c) := by
 simp only [xAa]
 cases opv F l <;> cases opv F c <;> rfl
def xXm (es : Nat) (H : Heap) (x : AV) : Option (Nat × Nat) → Option AV
 | none => none
 | some (l,h) => match x with
  | .sl z _ cs => some (.sl z (h - l) ((cs.drop (l * es)).take ((h - l) * es)))
  | .own z id off _ _ => some (.own z id (off + l * es) (h - l) es)
  | _ => none
def xOt (es : Nat) (H : Heap) (lo hi mx : Option AV) : AV → Option AV
 | .sl z n cs => if cs.length = n * es then xXm es H (.sl z n cs) (xA4 n lo hi mx) else none
 | .own z id off n es' => if es' = es then xXm es H (.own z id off n es') (xA4 n lo hi mx) else none
 | _ => none
theorem xOu (es : Nat) (x : Arg) (lo hi mx : Option Arg) : xAa R F H (.slice es x lo hi mx) = xCT H (xOt es H (lo.map (opv F)) (hi.map (opv F)) (mx.map (opv F)) (opv F x)) := by
 simp only [xAa,xCT,xOt,xXm]
 cases opv F x with
 | sl z n cs =>
  simp only
  split
  ·cases xA4 n (lo.map (opv F)) (hi.map (opv F)) (mx.map (opv F)) <;> rfl
  ·rfl
 | own z id off n es' =>
  simp only
  split
  ·cases xA4 n (lo.map (opv F)) (hi.map (opv F)) (mx.map (opv F)) <;> rfl
  ·rfl
 | _ => rfl
theorem xLt {es n : Nat} {z : Bool} {cs : List AV} (lo hi mx : Option AV) (h : cs.length = n * es) : xOt es H lo hi mx (.sl z n cs) = xXm es H (.sl z n cs) (xA4 n lo hi mx) := if_pos h
theorem xII {es n id off : Nat} {z : Bool} (lo hi mx : Option AV) : xOt es H lo hi mx (.own z id off n es) = xXm es H (.own z id off n es) (xA4 n lo hi mx) := if_pos rfl
theorem xR4 (es : Nat) (z : Bool) (n : Nat) (cs : List AV) (l h : Nat) : xXm es H (.sl z n cs) (some (l,h)) = some (.sl z (h - l) ((cs.drop (l * es)).take ((h - l) * es))) := rfl
theorem xOv (es : Nat) (z : Bool) (id off n es' : Nat) (l h : Nat) : xXm es H (.own z id off n es') (some (l,h)) = some (.own z id (off + l * es) (h - l) es) := rfl
theorem xDL {n : Nat} {k : IntKind} {m : Int} (h0 : 0 ≤ m) (h : m ≤ n) : xA4 n none (some (.int k m)) none = some (0,m.toNat) := by
 simp only [xA4,xA6,if_pos h0]
 rw [if_pos ⟨by omega,by omega⟩]
theorem xR5 {n : Nat} {k k' : IntKind} {l m : Int} (h0 : 0 ≤ l) (h1 : l ≤ m) (h : m ≤ n) : xA4 n (some (.int k l)) (some (.int k' m)) none = some (l.toNat,m.toNat) := by
 have h2 : 0 ≤ m := by omega
 simp only [xA4,xA6,if_pos h0,if_pos h2]
 rw [if_pos ⟨by omega,by omega⟩]
def xR6 (o : Nat) : AV → Option AV
 | .ptr id off => some (.ptr id (off + o))
 | .vptr cs off => some (.vptr cs (off + o))
 | _ => none
theorem xIJ (o id off : Nat) : xR6 o (.ptr id off) = some (.ptr id (off + o)) := rfl
theorem xHm (o : Nat) (cs : List AV) (off : Nat) : xR6 o (.vptr cs off) = some (.vptr cs (off + o)) := rfl
theorem xOw (o : Nat) (x : Arg) : xAa R F H (.faddr o x) = xCT H (xR6 o (opv F x)) := by
 simp only [xAa]
 cases opv F x <;> rfl
def xR7 (g : Bool) (off n : Nat) : AV → Option AV
 | .agg cs => if off + n ≤ cs.length then mkv g ((cs.drop off).take n) else none
 | _ => none
theorem xIK {g : Bool} {off n : Nat} {cs : List AV} (h : off + n ≤ cs.length) : xR7 g off n (.agg cs) = mkv g ((cs.drop off).take n) := if_pos h
theorem xZm (v : AV) : mkv false [v] = some v := rfl
theorem xZn (cs : List AV) : mkv true cs = some (.agg cs) := rfl
theorem xOx (g : Bool) (off n : Nat) (x : Arg) : xAa R F H (.field g off n x) = xCT H (xR7 g off n (opv F x)) := by
 simp only [xAa]
 cases opv F x with
 | agg cs =>
  simp only [xR7,xCT]
  split
  ·cases mkv g ((cs.drop off).take n) <;> rfl
  ·rfl
 | _ => rfl
def xIL (es : Nat) : AV → AV → Option AV
 | .sl _ n cs,.int _ i => if 0 ≤ i ∧ i.toNat < n then some (.vptr cs (i.toNat * es)) else none
 | .own _ id off n es',.int _ i => if 0 ≤ i ∧ i.toNat < n ∧ es' = es then some (.ptr id (off + i.toNat * es)) else none
 | _,_ => none
theorem xLu {es n : Nat} {z : Bool} {cs : List AV} {k : IntKind} {i : Int} (h0 : 0 ≤ i) (h : i < n) : xIL es (.sl z n cs) (.int k i) = some (.vptr cs (i.toNat * es)) := if_pos ⟨h0,by omega⟩
theorem xIM {es n id off : Nat} {z : Bool} {k : IntKind} {i : Int} (h0 : 0 ≤ i) (h : i < n) : xIL es (.own z id off n es) (.int k i) = some (.ptr id (off + i.toNat * es)) := if_pos ⟨h0,by omega,rfl⟩
theorem xOy (es : Nat) (x i : Arg) : xAa R F H (.iaddr es x i) = xCT H (xIL es (opv F x) (opv F i)) := by
 simp only [xAa]
 cases opv F x with
 | sl z n cs =>
  cases opv F i with
  | int k j =>
   simp only [xA6,xIL,xCT]
   by_cases h : 0 ≤ j
   ·by_cases h2 : j.toNat < n <;> simp [h,h2]
   ·simp [h]
  | _ => rfl
 | own z id off n es' =>
  cases opv F i with
  | int k j =>
   simp only [xA6,xIL,xCT]
   by_cases h : 0 ≤ j
   ·by_cases h2 : j.toNat < n
    ·by_cases h3 : es' = es <;> simp [h,h2,h3]
    ·simp [h,h2]
   ·simp [h]
  | _ => rfl
 | _ => cases opv F i <;> simp [xIL,xCT,xA6] <;> split <;> simp_all
def yA9 (i : Nat) : AV → Option AV
 | .tup vs => vs[i]?
 | _ => none
theorem xOz (i : Nat) (vs : List AV) : yA9 i (.tup vs) = vs[i]? := rfl
theorem xVP (i : Nat) (x : Arg) : xAa R F H (.ext i x) = xCT H (yA9 i (opv F x)) := by
 simp only [xAa]
 cases opv F x with
 | tup vs => simp only [yA9,xCT]; cases vs[i]? <;> rfl
 | _ => rfl
def yBa : AV → Option AV
 | .sl _ n _ => some (.int .i64 n)
 | .own _ _ _ n _ => some (.int .i64 n)
 | _ => none
theorem xR8 (z : Bool) (n : Nat) (cs : List AV) : yBa (.sl z n cs) = some (.int .i64 n) := rfl
theorem xOA (z : Bool) (id off n es : Nat) : yBa (.own z id off n es) = some (.int .i64 n) := rfl
theorem xVQ (x : Arg) : xAa R F H (.len x) = xCT H (yBa (opv F x)) := by
 simp only [xAa]
 cases opv F x <;> rfl
def xZo (fz : Bool) (es bytes : Nat) (H : Heap) (x : AV) : Option (Nat × List AV) → Option (AV × Heap)
 | none => none
 | some (m,ys) => match x with
  | .sl true _ _ => if m * bytes ≤ xAO ∧ m ≤ xAO then xDJ fz (m == 0) m es ys H else none
  | .own z id off n es' => match H[id]? with
   | some (.cells false _ cs) => if off = 0 ∧ es' = es ∧ n * es ≤ cs.length ∧ (n + m) * bytes ≤ xAO ∧ n + m ≤ xAO then
     some (.own (z && m == 0) H.length 0 (n + m) es,H.set id .dead ++ [.cells false (z && m == 0) (cs.take (n * es) ++ ys)]) else none
   | _ => none
  | _ => none
theorem xLv (fz : Bool) (es bytes : Nat) (x y : Arg) : xAa R F H (.append fz es bytes x y) = xZo fz es bytes H (opv F x) (src H es (opv F y)) := by
 simp only [xAa,xZo]
 cases src H es (opv F y) <;> rfl
theorem xOB {fz : Bool} {es bytes n m : Nat} {cs ys : List AV} (h : m * bytes ≤ 140737488355328) (h2 : m ≤ 140737488355328) : xZo fz es bytes H (.sl true n cs) (some (m,ys)) = xDJ fz (m == 0) m es ys H := if_pos ⟨h,h2⟩
def xXn (es bytes n m : Nat) (H : Heap) (z : Bool) (id : Nat) (ys : List AV) : Option Blk → Option (AV × Heap)
 | some (.cells false _ cs) => if n * es ≤ cs.length ∧ (n + m) * bytes ≤ xAO ∧ n + m ≤ xAO then
   some (.own (z && m == 0) H.length 0 (n + m) es,H.set id .dead ++ [.cells false (z && m == 0) (cs.take (n * es) ++ ys)]) else none
 | _ => none
theorem xOC (fz : Bool) (es bytes n m id : Nat) (z : Bool) (ys : List AV) : xZo fz es bytes H (.own z id 0 n es) (some (m,ys)) = xXn es bytes n m H z id ys H[id]? := by
 simp only [xZo,xXn]
 split
 ·rename_i z' cs hb
  by_cases h : n * es ≤ cs.length ∧ (n + m) * bytes ≤ xAO ∧ n + m ≤ xAO
  ·rw [if_pos h,if_pos ⟨trivial,trivial,h⟩]
  ·rw [if_neg h,if_neg (fun g => h g.2.2)]
 ·rename_i hne
  cases hb : H[id]? with
  | none => rfl
  | some b => cases b with
   | cells fz z cs => cases fz with
    | false => exact (hne _ _ hb).elim
    | true => rfl
   | _ => rfl
theorem xHn {es bytes n m id : Nat} {z z' : Bool} {ys cs : List AV} (h : n * es ≤ cs.length) (h2 : (n + m) * bytes ≤ 140737488355328) (h3 : n + m ≤ 140737488355328) : xXn es bytes n m H z id ys (some (.cells false z' cs)) =
  some (.own (z && m == 0) H.length 0 (n + m) es,H.set id .dead ++ [.cells false (z && m == 0) (cs.take (n * es) ++ ys)]) := if_pos ⟨h,h2,h3⟩
theorem xVR {es n : Nat} {z : Bool} {cs : List AV} (h : cs.length = n * es) : src H es (.sl z n cs) = some (n,cs) := if_pos h
def yBb (off n es : Nat) : Option Blk → Option (Nat × List AV)
 | some (.cells _ _ cs) => if off + n * es ≤ cs.length then some (n,(cs.drop off).take (n * es)) else none
 | _ => none
theorem xR9 (es n id off : Nat) (z : Bool) : src H es (.own z id off n es) = yBb off n es H[id]? := by
 simp only [src,yBb]
 cases H[id]? with
 | none => rfl
 | some b => cases b <;> simp
theorem xIN {es n off : Nat} {fz z : Bool} {cs : List AV} (h : off + n * es ≤ cs.length) : yBb off n es (some (.cells fz z cs)) = some (n,(cs.drop off).take (n * es)) := if_pos h
def xSa (z : List AV) (bytes id off k es m : Nat) (H : Heap) : Option Blk → Option (AV × Heap)
 | some (.cells false _ cs) => if off = 0 ∧ es = z.length ∧ k * z.length ≤ cs.length ∧ (k + m) * bytes ≤ xAO ∧ k + m ≤ xAO ∧ 0 < m ∧ z.all AV.isCell = true then
   some (.own false H.length 0 (k + m) z.length,H.set id .dead ++ [.cells false false (cs.take (k * z.length) ++ xCD z m)]) else none
 | _ => none
def xGh (z : List AV) (bytes : Nat) (H : Heap) : AV → AV → Option (AV × Heap)
 | .sl true _ _,.int _ m => if 0 ≤ m ∧ m.toNat * bytes ≤ xAO ∧ m.toNat ≤ xAO ∧ z.all AV.isCell = true then xDJ false (m.toNat == 0) m.toNat z.length (xCD z m.toNat) H else none
 | .own false id off k es,.int _ m => if 0 ≤ m then xSa z bytes id off k es m.toNat H H[id]? else none
 | _,_ => none
theorem xM9 (z : List AV) (bytes id off k es m : Nat) (H : Heap) (b : Option Blk) : (match b with
   | some (.cells false _ cs) => if off = 0 ∧ es = z.length ∧ k * z.length ≤ cs.length ∧ (k + m) * bytes ≤ xAO ∧ k + m ≤ xAO ∧ 0 < m ∧ z.all AV.isCell = true then
     some (AV.own false H.length 0 (k + m) z.length,H.set id .dead ++ [.cells false false (cs.take (k * z.length) ++ xCD z m)]) else none
   | _ => none) = xSa z bytes id off k es m H b := by
 rcases b with _ | b
 ·rfl
 ·cases b with
  | cells fz zz cs => cases fz <;> rfl
  | _ => rfl
theorem xIO (z : List AV) (bytes : Nat) (x n : Arg) : xAa R F H (.appendz z bytes x n) = xGh z bytes H (opv F x) (opv F n) := by
 simp only [xAa]
 cases hn : opv F n with
 | int k m =>
  simp only [xA6]
  by_cases h : 0 ≤ m
  ·cases hx : opv F x with
   | sl zz nn cs => cases zz <;> simp [xGh,h]
   | own zz id off kk es =>
    cases zz with
    | true => simp [xGh,h]
    | false => simp only [h,if_true,xGh]; exact xM9 _ _ _ _ _ _ _ _ _
   | _ => simp [xGh,h]
  ·cases hx : opv F x with
   | sl zz nn cs => cases zz <;> simp [xGh,h]
   | own zz id off kk es => cases zz <;> simp [xGh,h]
   | _ => simp [xGh,h]
 | _ =>
  cases hx : opv F x with
  | sl zz nn cs => cases zz <;> simp [xGh,xA6]
  | own zz id off kk es => cases zz <;> simp [xGh,xA6]
  | _ => simp [xGh,xA6]
theorem xSb {z : List AV} {bytes id off k es : Nat} {kk : IntKind} {m : Int} (h0 : 0 ≤ m) : xGh z bytes H (.own false id off k es) (.int kk m) = xSa z bytes id off k es m.toNat H H[id]? := if_pos h0
theorem xNa {z : List AV} {bytes id k m : Nat} {zz : Bool} {cs : List AV} (h1 : k * z.length ≤ cs.length) (h2 : (k + m) * bytes ≤ 140737488355328) (h3 : k + m ≤ 140737488355328) (h4 : 0 < m) (h5 : z.all AV.isCell = true) :
  xSa z bytes id 0 k z.length m H (some (.cells false zz cs)) = some (.own false H.length 0 (k + m) z.length,H.set id .dead ++ [.cells false false (cs.take (k * z.length) ++ xCD z m)]) := if_pos ⟨rfl,rfl,h1,h2,h3,h4,h5⟩
def yBc : AV → AV → Option AV
 | .int k a,.int _ b => some (.int k (min a b))
 | _,_ => none
theorem xOD (k k' : IntKind) (a b : Int) : yBc (.int k a) (.int k' b) = some (.int k (min a b)) := rfl
theorem xSc (x y : Arg) : xAa R F H (.mini x y) = xCT H (yBc (opv F x) (opv F y)) := by
 simp only [xAa]
 cases opv F x with
 | int k a => cases opv F y with
  | int k' b => simp only [yBc,xCT]; congr 3; split <;> omega
  | _ => rfl
 | _ => rfl
theorem xVS (z : List AV) : xCD z 0 = [] := rfl
theorem xVT (z : List AV) : xCD z 1 = z ++ ([]) := rfl
theorem xVU (z : List AV) : xCD z 2 = z ++ (z ++ ([])) := rfl
theorem xVV (z : List AV) : xCD z 3 = z ++ (z ++ (z ++ ([]))) := rfl
theorem xVW (z : List AV) : xCD z 4 = z ++ (z ++ (z ++ (z ++ ([])))) := rfl
theorem xVX (z : List AV) : xCD z 5 = z ++ (z ++ (z ++ (z ++ (z ++ ([]))))) := rfl
theorem xCF (d : Nat) (k : IntKind) (n : Int) : frz d H (.int k n) = some (.int k n) := by cases d <;> rfl
theorem xGr (d : Nat) (b : Bool) : frz d H (.bool b) = some (.bool b) := by cases d <;> rfl
theorem xSd (d : Nat) (b : ByteArray) : frz d H (.str b) = some (.str b) := by cases d <;> rfl
theorem xEZ (d : Nat) (z : Bool) (n : Nat) (cs : List AV) : frz d H (.sl z n cs) = some (.sl z n cs) := by cases d <;> rfl
theorem xSe (d : Nat) (cs : List AV) : frz (d + 1) H (.agg cs) = (cs.mapM (frz d H)).map AV.agg := rfl
theorem xSf (d : Nat) (cs : List AV) : frz (d + 1) H (.tup cs) = (cs.mapM (frz d H)).map AV.tup := rfl
def yBd (d : Nat) (H : Heap) (z : Bool) (off n es : Nat) : Option Blk → Option AV
 | some (.cells _ _ cs) => if off + n * es ≤ cs.length then slK z n (((cs.drop off).take (n * es)).mapM (frz d H)) else none
 | _ => none
theorem xBS (d : Nat) (z : Bool) (id off n es : Nat) : frz (d + 1) H (.own z id off n es) = yBd d H z off n es H[id]? := by
 simp only [frz,yBd]
 cases H[id]? with
 | none => rfl
 | some b => cases b with
  | cells fz z' cs =>
   simp only
   split
   ·cases ((cs.drop off).take (n * es)).mapM (frz d H) <;> rfl
   ·rfl
  | _ => rfl
theorem xD3 {d off n es : Nat} {z fz z' : Bool} {cs : List AV} (h : off + n * es ≤ cs.length) : yBd d H z off n es (some (.cells fz z' cs)) = slK z n (((cs.drop off).take (n * es)).mapM (frz d H)) := if_pos h
theorem xJZ (d : Nat) (k : IntKind) (n : Int) : bor d H (.int k n) = [] := by cases d <;> rfl
theorem xOE (d : Nat) (b : Bool) : bor d H (.bool b) = [] := by cases d <;> rfl
theorem xSg (d : Nat) (b : ByteArray) : bor d H (.str b) = [] := by cases d <;> rfl
def yBe (d : Nat) (H : Heap) (off : Nat) : Option Blk → Option AV
 | some (.cells _ _ cs) => (cs.mapM (frz d H)).map fun cs' => .vptr cs' off
 | _ => none
theorem xSh (d i o : Nat) : frz (d + 1) H (.ptr i o) = yBe d H o H[i]? := by
 simp only [frz,yBe]
 cases H[i]? with
 | none => rfl
 | some b => cases b <;> rfl
theorem xIP (d : Nat) (o : Nat) (fz z : Bool) (cs : List AV) : yBe d H o (some (.cells fz z cs)) = (cs.mapM (frz d H)).map fun cs' => .vptr cs' o := rfl
def xXo (d : Nat) (H : Heap) : Option Blk → List Nat
 | some (.cells _ _ cs) => cs.flatMap (bor d H)
 | _ => []
theorem xSi (d i o : Nat) : bor (d + 1) H (.ptr i o) = i :: xXo d H H[i]? := by
 simp only [bor,xXo]
 cases H[i]? with
 | none => rfl
 | some b => cases b <;> rfl
theorem xHo (d : Nat) (fz z : Bool) (cs : List AV) : xXo d H (some (.cells fz z cs)) = cs.flatMap (bor d H) := rfl
def xZp : Option Blk → Bool
 | some (.cells true _ _) => true
 | _ => false
theorem xIQ (i : Nat) : xFp H i = xZp H[i]? := by
 simp only [xFp,xZp]
 cases H[i]? with
 | none => rfl
 | some b => cases b with
  | cells fz z cs => cases fz <;> rfl
  | _ => rfl
theorem xSj (d : Nat) (z : Bool) (n : Nat) (cs : List AV) : bor d H (.sl z n cs) = [] := by cases d <;> rfl
theorem xSk (d : Nat) (cs : List AV) : bor (d + 1) H (.agg cs) = cs.flatMap (bor d H) := rfl
def yBf (d : Nat) (H : Heap) (off n es : Nat) : Option Blk → List Nat
 | some (.cells _ _ cs) => ((cs.drop off).take (n * es)).flatMap (bor d H)
 | _ => []
theorem xJ0 (d : Nat) (z : Bool) (id off n es : Nat) : bor (d + 1) H (.own z id off n es) = id :: yBf d H off n es H[id]? := by
 simp only [bor,yBf]
 cases H[id]? with
 | none => rfl
 | some b => cases b <;> rfl
theorem xIR (d off n es : Nat) (fz z : Bool) (cs : List AV) : yBf d H off n es (some (.cells fz z cs)) = ((cs.drop off).take (n * es)).flatMap (bor d H) := rfl
def yAN (args : List AV) (H : Heap) : Option AV → Option (AV × Heap)
 | some r => some (r,if xAQ r = true then H else fzIds H (args.flatMap (bor frzN H)))
 | none => none
theorem xLw (args : List AV) (r : AV) : yAN args H (some r) = some (r,if xAQ r = true then H else fzIds H (args.flatMap (bor frzN H))) := rfl
def yBg (R : Rec) (f : Nat) (args : List AV) (H : Heap) : Option (List AV) → Option (AV × Heap)
 | some args' => yAN args H (R.pcall f args')
 | none => none
theorem xLx (f : Nat) (args args' : List AV) : yBg R f args H (some args') = yAN args H (R.pcall f args') := rfl
theorem xLy (f : Nat) (args : List AV) : xBr R f args H = yBg R f args H (args.mapM (frz frzN H)) := by
 simp only [xBr,yBg]
 cases args.mapM (frz frzN H) with
 | none => rfl
 | some args' => simp only [yAN]; cases R.pcall f args' <;> rfl
theorem xSl (f : Nat) (args : List Arg) : xAa R F H (.call f args) = xBr R f (args.map (opv F)) H := rfl
theorem xOF (f : Arg) (args : List Arg) : xAa R F H (.icall f args) = R.icall (opv F f) (args.map (opv F)) H := rfl
def xIS (args : List AV) (H : Heap) : Option (AV × Heap) → Option (AV × Heap)
 | some (r,_) => if quietCall r H args = true then some (r,H) else none
 | none => none
theorem xHp (args : List AV) (r : AV) (H' : Heap) : xIS args H (some (r,H')) = if quietCall r H args = true then some (r,H) else none := rfl
theorem xSm (f : Nat) (args : List Arg) : xBa R F H (.call f args) = xIS (args.map (opv F)) H (xBr R f (args.map (opv F)) H) := by
 simp only [xBa,xAr,xIS]
 cases xBr R f (args.map (opv F)) H with
 | none => rfl
 | some r => obtain ⟨r,H'⟩ := r; simp only; split <;> rfl
def xNb (R : Rec) (args : List AV) (H : Heap) : AV → Option (AV × Heap)
 | .func g caps => xIS (args ++ caps) H (xBr R g (args ++ caps) H)
 | _ => none
theorem xF8 (args : List AV) (g : Nat) (caps : List AV) : xNb R args H (.func g caps) = xIS (args ++ caps) H (xBr R g (args ++ caps) H) := rfl
theorem xOG (f : Arg) (args : List Arg) : xBa R F H (.fcall f args) = xNb R (args.map (opv F)) H (opv F f) := by
 simp only [xBa,xAr,xIS,xNb]
 cases opv F f with
 | func g caps =>
  simp only
  cases xBr R g (args.map (opv F) ++ caps) H with
  | none => rfl
  | some r => obtain ⟨r,H'⟩ := r; simp only; split <;> rfl
 | _ => rfl
theorem xVY (v : AV) : xBa R F H (.box (.c v)) = if v.cells.all AV.isCell = true then some (.any,H) else none := by
 simp only [xBa,xAr]
 split <;> rfl
def xNc (H : Heap) : Option (AV × Heap) → Option (AV × Heap)
 | some (v,_) => some (v,H)
 | none => none
theorem xLz (v : AV) (H' : Heap) : xNc H (some (v,H')) = some (v,H) := rfl
theorem xGi (op : AOp) (h : xAr R F H op = (xAa R F H op).map (·.1)) : xBa R F H op = xNc H (xAa R F H op) := by
 simp only [xBa,h,xNc]
 cases xAa R F H op <;> rfl
theorem xVZ (x : Arg) : xBa R F H (.mov x) = xNc H (xAa R F H (.mov x)) := xGi _ rfl
theorem xSn (c a b : Arg) : xBa R F H (.pick c a b) = xNc H (xAa R F H (.pick c a b)) := xGi _ rfl
theorem xSo (g : Bool) (n : Nat) (p : Arg) : xBa R F H (.load g n p) = xNc H (xAa R F H (.load g n p)) := xGi _ rfl
theorem xLA (x : Arg) : xBa R F H (.nilchk x) = xNc H (xAa R F H (.nilchk x)) := xGi _ rfl
theorem xV0 (op : BinOp) (x y : Arg) : xBa R F H (.bin op x y) = xNc H (xAa R F H (.bin op x y)) := xGi _ rfl
theorem xSp (k : IntKind) (x : Arg) : xBa R F H (.conv k x) = xNc H (xAa R F H (.conv k x)) := xGi _ rfl
theorem xOH (es : Nat) (x : Arg) (lo hi mx : Option Arg) : xBa R F H (.slice es x lo hi mx) = xNc H (xAa R F H (.slice es x lo hi mx)) := xGi _ rfl
theorem xOI (o : Nat) (x : Arg) : xBa R F H (.faddr o x) = xNc H (xAa R F H (.faddr o x)) := xGi _ rfl
theorem xOJ (es : Nat) (x i : Arg) : xBa R F H (.iaddr es x i) = xNc H (xAa R F H (.iaddr es x i)) := xGi _ rfl
theorem xV1 (x : Arg) : xBa R F H (.len x) = xNc H (xAa R F H (.len x)) := xGi _ rfl
def xP9 (H : Heap) : Option AV → Option (AV × Heap)
 | some v => some (v,H)
 | none => none
theorem xIT (v : AV) : xP9 H (some v) = some (v,H) := rfl
def xLB (rs : List ARes) : Option (AExit × St) → Option (AV × Heap)
 | some (.normal,s) => xP9 s.H (xAR rs s)
 | some (.ret,s) => xP9 s.H (xAR rs s)
 | _ => none
theorem xF9 (rs : List ARes) (F : List AV) (H : Heap) : xLB rs (some (.normal,⟨F,H⟩)) = xP9 H (xAR rs ⟨F,H⟩) := rfl
theorem xLC (rs : List ARes) (F : List AV) (H : Heap) : xLB rs (some (.ret,⟨F,H⟩)) = xP9 H (xAR rs ⟨F,H⟩) := rfl
theorem xIU (rs : List ARes) : xLB rs none = none := rfl
theorem xLD (rs : List ARes) {c : Prop} [Decidable c] (x y : Option (AExit × St)) : xLB rs (if c then x else y) = if c then xLB rs x else xLB rs y := by split <;> rfl
def pads : Nat → List AV
 | 0 => []
 | n + 1 => .tup [] :: pads n
theorem xSq : ∀ n,List.replicate n (AV.tup []) = pads n
 | 0 => rfl
 | n + 1 => by rw [List.replicate_succ,xSq n]; rfl
theorem xAo (n : Nat) (code : ACode) (rs : List ARes) (args : List AV) : xAX R ⟨n,code,rs⟩ args H = xLB rs (run R code ⟨args ++ pads (n - args.length),H⟩) := by
 rw [← xSq]
 simp only [xAX,xLB,xKV,xP9]
 cases h : run R code ⟨args ++ List.replicate (n - args.length) (.tup []),H⟩ with
 | none => rfl
 | some r =>
  obtain ⟨e,s⟩ := r
  cases e with
  | exit i => rfl
  | _ => simp only; cases xAR rs s <;> rfl
def xHq : Option (AV × Heap) → Option AV
 | some (r,H') => frz frzN H' r
 | none => none
theorem xHr (r : AV) (H' : Heap) : xHq (some (r,H')) = frz frzN H' r := rfl
theorem xHs : xHq none = none := rfl
theorem xIV {c : Prop} [Decidable c] (x y : Option (AV × Heap)) : xHq (if c then x else y) = if c then xHq x else xHq y := by split <;> rfl
theorem xAb (fn : AFunc) (args : List AV) : xAz R fn args = xHq (xAX R fn args []) := by
 simp only [xAz,xHq]
 cases xAX R fn args [] <;> rfl
def xXp (g : Bool) : Option (List AV) → Option AV
 | some cs => mkv g cs
 | none => none
theorem xIW (g : Bool) (cs : List AV) : xXp g (some cs) = mkv g cs := rfl
theorem xSr (t : Nat) : xQ1 ⟨F,H⟩ (.tmp t) = some (F.getD t .any) := rfl
theorem xOK (t : Nat) (g : Bool) (n : Nat) : xQ1 ⟨F,H⟩ (.cell t g n) = xXp g (rd H (F.getD t .any) n) := by
 simp only [xQ1,xXp]
 cases rd H (F.getD t .any) n <;> rfl
theorem xLE : xAR [] s = some (.tup []) := rfl
theorem xLF (r : ARes) : xAR [r] s = xQ1 s r := rfl
def yBh (s : St) (rs : List ARes) : Option AV → Option (List AV)
 | some v => (xPY s rs).map (v :: ·)
 | none => none
theorem xLG (rs : List ARes) (v : AV) : yBh s rs (some v) = (xPY s rs).map (v :: ·) := rfl
theorem xOL : xPY s [] = some [] := rfl
theorem xLH (r : ARes) (rs : List ARes) : xPY s (r :: rs) = yBh s rs (xQ1 s r) := by
 simp only [xPY,yBh]
 cases xQ1 s r <;> rfl
theorem xLI (r r' : ARes) (rs : List ARes) : xAR (r :: r' :: rs) s = (xPY s (r :: r' :: rs)).map .tup := rfl
end
section
variable {R : Rec} {F : List AV} {H : Heap} {s : St}
def xSs : Option (AV × Heap) → Option (AV × List Blk)
 | some (r,H') => (xEq H' r).map fun (v,B) => (v,B.map (·.2))
 | none => none
theorem xLJ (f : Nat) (args : List AV) : xCv R f args = xSs (R.icall (.func f []) args []) := by
 unfold xCv xSs
 cases R.icall (.func f []) args [] <;> rfl
theorem xHt (r : AV) (H' : Heap) : xSs (some (r,H')) = (xEq H' r).map fun (v,B) => (v,B.map (·.2)) := rfl
def ocK (H : Heap) (ids : List Nat) : Option (AV × List Blk) → Option (AV × Heap)
 | some (v,B) => some (xBM H.length v,fzIds H ids ++ B)
 | none => none
def xSt (R : Rec) (f : Nat) (H : Heap) (ids : List Nat) : Option (List AV) → Option (AV × Heap)
 | some args' => ocK H ids (xCv R f args')
 | none => none
theorem xOM (f : Nat) (args : List Arg) : xAa R F H (.ocall f args) = xSt R f H ((args.map (opv F)).flatMap (bor frzN H)) ((args.map (opv F)).mapM (frz frzN H)) := by
 simp only [xAa,xSt]
 cases (args.map (opv F)).mapM (frz frzN H) with
 | none => rfl
 | some args' =>
  simp only [ocK]
  cases xCv R f args' <;> rfl
theorem xHu (f : Nat) (ids : List Nat) (args' : List AV) : xSt R f H ids (some args') = ocK H ids (xCv R f args') := rfl
theorem xON (ids : List Nat) (v : AV) (B : List Blk) : ocK H ids (some (v,B)) = some (xBM H.length v,fzIds H ids ++ B) := rfl
def yAO (H : Heap) (ids : List Nat) : Option (AV × Heap) → Option (AV × Heap)
 | some (v,B) => some (xBM H.length v,fzIds H ids ++ B.map (xB0 H.length))
 | none => none
def xNd (R : Rec) (f : Nat) (H : Heap) (ids : List Nat) : Option (List AV) → Option (AV × Heap)
 | some args' => yAO H ids (xB5 R f args')
 | none => none
theorem xLK (f : Nat) (args : List Arg) : xAa R F H (.ocallw f args) = xNd R f H ((args.map (opv F)).flatMap (bor frzN H)) ((args.map (opv F)).mapM (frz frzN H)) := by
 simp only [xAa,xNd]
 cases (args.map (opv F)).mapM (frz frzN H) with
 | none => rfl
 | some args' =>
  simp only [yAO]
  cases xB5 R f args' <;> rfl
theorem xGa (f : Nat) (ids : List Nat) (args' : List AV) : xNd R f H ids (some args') = yAO H ids (xB5 R f args') := rfl
theorem xLL (ids : List Nat) (v : AV) (B : Heap) : yAO H ids (some (v,B)) = some (xBM H.length v,fzIds H ids ++ B.map (xB0 H.length)) := rfl
theorem xLM {f : Nat} {args : List AV} {v : AV} {B : Heap} (h : R.icall (.func f []) args [] = some (v,B)) (h1 : xT1 v = true) : xB5 R f args = some (v,B) := by
 unfold xB5
 rw [h]
 exact if_pos h1
def t1B (z : Bool) (id off n es : Nat) (B : List (Nat × Blk)) : Option Blk → Option (AV × List (Nat × Blk))
 | some (.cells false z' cs) => if cs.all xBx = true then some (.own z B.length off n es,B ++ [(id,.cells false z' cs)]) else none
 | _ => none
def t1I (z : Bool) (id off n es : Nat) (B : List (Nat × Blk)) (b : Option Blk) : Option Nat → Option (AV × List (Nat × Blk))
 | some k => some (.own z k off n es,B)
 | none => t1B z id off n es B b
theorem xLN (H : Heap) (z : Bool) (id off n es : Nat) (B : List (Nat × Blk)) : xJT H (.own z id off n es) B = t1I z id off n es B H[id]? (B.findIdx? (fun p => p.1 == id)) := by
 simp only [xJT,t1I]
 cases B.findIdx? (fun p => p.1 == id) with
 | some k => rfl
 | none =>
  simp only [t1B]
  cases H[id]? with
  | none => rfl
  | some b => cases b with
   | cells fz z' cs => cases fz <;> rfl
   | _ => rfl
theorem xSu (z : Bool) (id off n es : Nat) (B : List (Nat × Blk)) (z' : Bool) (cs : List AV) : t1I z id off n es B (some (.cells false z' cs)) none = if cs.all xBx = true then some (.own z B.length off n es,B ++ [(id,.cells false z' cs)]) else none := rfl
theorem xHv (H : Heap) (z : Bool) (id off n es : Nat) : xEq H (.own z id off n es) = xJT H (.own z id off n es) [] := rfl
theorem xLO {α : Type} (p : α → Bool) : ([] : List α).findIdx? p = none := rfl
theorem xXq {α : Type} {f : α → AV} (h : ∀ a,xBx (f a) = true) (l : List α) : (l.map f).all xBx = true := by
 simp [List.all_eq_true,h]
end
section
variable {R : Rec} {F : List AV} {H : Heap}
def yAP (g : Bool) (es len : Nat) : AV → AV → Option AV
 | .agg cs,.int _ i => if 0 ≤ i ∧ i.toNat < len ∧ i.toNat * es + es ≤ cs.length then mkv g ((cs.drop (i.toNat * es)).take es) else none
 | _,_ => none
theorem xOO {g : Bool} {es len : Nat} {cs : List AV} {k : IntKind} {i : Int} (h0 : 0 ≤ i) (h : i < len) (h2 : i.toNat * es + es ≤ cs.length) : yAP g es len (.agg cs) (.int k i) = mkv g ((cs.drop (i.toNat * es)).take es) := if_pos ⟨h0,by omega,h2⟩
theorem xV2 (g : Bool) (es len : Nat) (x i : Arg) : xAa R F H (.idx g es len x i) = xCT H (yAP g es len (opv F x) (opv F i)) := by
 simp only [xAa]
 cases opv F x with
 | agg cs => cases opv F i with
  | int k n =>
   by_cases h0 : 0 ≤ n
   ·have e : xA6 (.int k n) = some n.toNat := by simp [xA6,h0]
    simp only [e,yAP,h0,true_and]
    by_cases c : n.toNat < len ∧ n.toNat * es + es ≤ cs.length
    ·rw [if_pos c,if_pos c]
     cases mkv g ((cs.drop (n.toNat * es)).take es) <;> rfl
    ·rw [if_neg c,if_neg c]; rfl
   ·have e : xA6 (.int k n) = none := by simp [xA6,h0]
    simp only [e,yAP,h0,false_and,if_false,xCT]
  | _ => rfl
 | _ => rfl
def xIX (es len : Nat) : AV → AV → Option AV
 | .ptr id off,.int _ i => if 0 ≤ i ∧ i.toNat < len then some (.ptr id (off + i.toNat * es)) else none
 | .vptr cs off,.int _ i => if 0 ≤ i ∧ i.toNat < len then some (.vptr cs (off + i.toNat * es)) else none
 | _,_ => none
theorem xIY {es len id off : Nat} {k : IntKind} {i : Int} (h0 : 0 ≤ i) (h : i < len) : xIX es len (.ptr id off) (.int k i) = some (.ptr id (off + i.toNat * es)) := if_pos ⟨h0,by omega⟩
theorem xOP (es len : Nat) (x i : Arg) : xAa R F H (.arrat es len x i) = xCT H (xIX es len (opv F x) (opv F i)) := by
 simp only [xAa]
 cases opv F x with
 | ptr id off => cases opv F i with
  | int k n =>
   by_cases h0 : 0 ≤ n
   ·have e : xA6 (.int k n) = some n.toNat := by simp [xA6,h0]
    simp only [e,xIX,h0,true_and]
    by_cases c : n.toNat < len
    ·rw [if_pos c,if_pos c]; rfl
    ·rw [if_neg c,if_neg c]; rfl
   ·have e : xA6 (.int k n) = none := by simp [xA6,h0]
    simp only [e,xIX,h0,false_and,if_false,xCT]
  | _ => rfl
 | vptr cs off => cases opv F i with
  | int k n =>
   by_cases h0 : 0 ≤ n
   ·have e : xA6 (.int k n) = some n.toNat := by simp [xA6,h0]
    simp only [e,xIX,h0,true_and]
    by_cases c : n.toNat < len
    ·rw [if_pos c,if_pos c]; rfl
    ·rw [if_neg c,if_neg c]; rfl
   ·have e : xA6 (.int k n) = none := by simp [xA6,h0]
    simp only [e,xIX,h0,false_and,if_false,xCT]
  | _ => rfl
 | _ => rfl
theorem xOQ (es len : Nat) (x i : Arg) : xBa R F H (.arrat es len x i) = xNc H (xAa R F H (.arrat es len x i)) := xGi _ rfl
end
end Go.Abs
