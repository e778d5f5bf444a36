/- The interpreter's equations in the form that simp walks by: one equation for each construct,told apart by what has been computed already. -/
import Derived.Test.YtkpbekcgigigkaaDoorAbsLim
namespace Go.Abs
set_option linter.unusedVariables false
set_option linter.unusedSimpArgs false
theorem xEs : ∀ (scr : List Nat) (F : List AV) (i : Nat),(xAY scr F)[i]? = if i ∈ scr then (F[i]?).map (fun _ => AV.any) else F[i]?
  | [],F,i => by simp [xAY]
  | j :: scr,F,i => by
    have := xEs scr (F.set j .any) i
    simp only [xAY,List.foldl_cons] at this ⊢
    rw [this]
    by_cases h : i = j
    · subst h
      simp only [List.getElem?_set_self',List.mem_cons,true_or,if_true]
      cases F[i]? <;> simp
    · have h' : ¬ j = i := fun e => h e.symm
      simp [List.getElem?_set,h,h']
theorem xPC (scr : List Nat) (F : List AV) : xAY scr (xAY scr F) = xAY scr F := by
  apply List.ext_getElem?
  intro i
  rw [xEs,xEs]
  split
  · cases F[i]? <;> rfl
  · rfl
section
variable {prog : Nat → Option AFunc}
theorem xUy (prog : Nat → Option AFunc) (n : Nat) : Tends (fix prog n) (fun _ => lim prog) :=
  ⟨fun f a v h => .all fun _ => xEG ((xE0 prog n).pcall f a v h),fun f a H v h => .all fun _ => xEG ((xE0 prog n).icall f a H v h),fun scr b s v h => .all fun _ => xEG ((xE0 prog n).loop scr b s v h)⟩
theorem Ev.const {p : Prop} (h : Ev fun _ => p) : p := let ⟨n,hn⟩ := h; hn n (Nat.le_refl n)
theorem xUz {α : Type} {a b : Option α} (h1 : ∀ v,a = some v → b = some v) (h2 : ∀ v,b = some v → a = some v) : a = b := by
  cases a with
  | some v => exact (h1 v rfl).symm
  | none =>
    cases b with
    | none => rfl
    | some v => exact h2 v rfl
theorem xAD {f : Nat} {fn : AFunc} (hf : prog f = some fn) (args : List AV) : (lim prog).pcall f args = xA5 (lim prog) fn args := by
  refine xUz (fun v h => ?_) (fun v h => xMd hf h)
  obtain ⟨n,hn⟩ := xCA (p := fun m => (fix prog m).pcall f args) h
  have h1 : (xC0 prog (fix prog n)).pcall f args = some v := hn (n + 1) (by omega)
  have h2 := (xBG (xUy prog n) prog).pcall f args v h1 |>.const
  simp only [xC0,hf] at h2
  exact h2
theorem xNC (f : AV) (args : List AV) (H : Heap) : (lim prog).icall f args H = xDq prog (lim prog) f args H := by
  refine xUz (fun v h => ?_) (fun v h => xMe h)
  obtain ⟨n,hn⟩ := xCA (p := fun m => (fix prog m).icall f args H) h
  have h1 : (xC0 prog (fix prog n)).icall f args H = some v := hn (n + 1) (by omega)
  exact (xBG (xUy prog n) prog).icall f args H v h1 |>.const
theorem xEO (scr : List Nat) (b : ACode) (s : St) : (lim prog).loop scr b s = xHB (lim prog) scr b s := by
  refine xUz (fun v h => ?_) (fun v h => xPX h)
  obtain ⟨n,hn⟩ := xCA (p := fun m => (fix prog m).loop scr b s) h
  have h1 : (xC0 prog (fix prog n)).loop scr b s = some v := hn (n + 1) (by omega)
  exact (xBG (xUy prog n) prog).loop scr b s v h1 |>.const
theorem xA4 {f : Nat} {fn : AFunc} (hf : prog f = some fn) (caps args : List AV) (H : Heap) : (lim prog).icall (.func f caps) args H = xB6 (lim prog) fn (args ++ caps) H := by
  rw [xNC]
  simp only [xDq,hf]
theorem xEA (scr : List Nat) (b : ACode) (F : List AV) (H : Heap) : (lim prog).loop scr b ⟨F,H⟩ = (lim prog).loop scr b ⟨xAY scr F,H⟩ := by
  rw [xEO,xEO]
  unfold xHB
  simp only [xPC]
def xBt (R : Rec) (scr : List Nat) (b : ACode) : Option (AExit × St) → Option (AExit × St)
  | some (.normal,s) => R.loop scr b ⟨xAY scr s.F,s.H⟩
  | some (e,s) => some (e,⟨xAY scr s.F,s.H⟩)
  | none => none
theorem xAE (scr : List Nat) (b : ACode) (F : List AV) (H : Heap) (h : xAY scr F = F) : (lim prog).loop scr b ⟨F,H⟩ = xBt (lim prog) scr b (run (lim prog) b ⟨F,H⟩) := by
  rw [xEO]
  unfold xHB xBt
  simp only [h]
  split
  · rename_i s' hs
    rw [hs]
    exact xEA scr b s'.F s'.H
  · rename_i e s' hne hs
    rw [hs]
    cases e with
    | normal => exact (hne rfl).elim
    | exit i => rfl
    | ret => rfl
  · rename_i hs
    rw [hs]
theorem xQD (scr : List Nat) (b : ACode) (F : List AV) (H : Heap) : run (lim prog) (.loop scr b) ⟨F,H⟩ = (lim prog).loop scr b ⟨xAY scr F,H⟩ := xEA scr b F H
end
section
variable {R : Rec} {F : List AV} {H : Heap} {s : St}
def xXI (R : Rec) (b : ACode) : Option (AExit × St) → Option (AExit × St)
  | some (.normal,s) => run R b s
  | r => r
theorem xUA (a b : ACode) : run R (.seq a b) s = xXI R b (run R a s) := by
  simp only [run,xXI]
  split <;> simp_all
theorem xHQ (b : ACode) (s : St) : xXI R b (some (.normal,s)) = run R b s := rfl
theorem xND (b : ACode) (i : Nat) (s : St) : xXI R b (some (.exit i,s)) = some (.exit i,s) := rfl
theorem xQE (b : ACode) (s : St) : xXI R b (some (.ret,s)) = some (.ret,s) := rfl
theorem xNE (b : ACode) : xXI R b none = none := rfl
theorem xQF (b : ACode) {c : Prop} [Decidable c] (x y : Option (AExit × St)) : xXI R b (if c then x else y) = if c then xXI R b x else xXI R b y := by split <;> rfl
def xZ2 (R : Rec) (a b : ACode) (s : St) : AV → Option (AExit × St)
  | .bool t => if t = true then run R a s else run R b s
  | _ => none
theorem xQG (c : Arg) (a b : ACode) (F : List AV) (H : Heap) : run R (.cond c a b) ⟨F,H⟩ = xZ2 R a b ⟨F,H⟩ (opv F c) := by
  simp only [run,xZ2]
  split <;> simp_all
theorem xJ7 (a b : ACode) (t : Bool) : xZ2 R a b s (.bool t) = if t = true then run R a s else run R b s := rfl
def xFq (id : Nat) : Option (AExit × St) → Option (AExit × St)
  | some (.exit i,s) => if i = id then some (.normal,s) else some (.exit i,s)
  | r => r
theorem xNF (id : Nat) (b : ACode) : run R (.block id b) s = xFq id (run R b s) := by
  simp only [run,xFq]
  split <;> simp_all
theorem xHR (id i : Nat) (s : St) : xFq id (some (.exit i,s)) = if i = id then some (.normal,s) else some (.exit i,s) := rfl
theorem xFr (id : Nat) (s : St) : xFq id (some (.normal,s)) = some (.normal,s) := rfl
theorem xJ8 (id : Nat) (s : St) : xFq id (some (.ret,s)) = some (.ret,s) := rfl
theorem xHS (id : Nat) : xFq id none = none := rfl
theorem xJ9 (id : Nat) {c : Prop} [Decidable c] (x y : Option (AExit × St)) : xFq id (if c then x else y) = if c then xFq id x else xFq id y := by split <;> rfl
theorem xGw (scr : List Nat) (b : ACode) (F : List AV) (H : Heap) : xBt R scr b (some (.normal,⟨F,H⟩)) = R.loop scr b ⟨xAY scr F,H⟩ := rfl
theorem xKa (scr : List Nat) (b : ACode) (i : Nat) (F : List AV) (H : Heap) : xBt R scr b (some (.exit i,⟨F,H⟩)) = some (.exit i,⟨xAY scr F,H⟩) := rfl
theorem xNG (scr : List Nat) (b : ACode) (F : List AV) (H : Heap) : xBt R scr b (some (.ret,⟨F,H⟩)) = some (.ret,⟨xAY scr F,H⟩) := rfl
theorem xNH (scr : List Nat) (b : ACode) {c : Prop} [Decidable c] (x y : Option (AExit × St)) : xBt R scr b (if c then x else y) = if c then xBt R scr b x else xBt R scr b y := by split <;> rfl
def xWI : Option St → Option (AExit × St)
  | some s => some (.normal,s)
  | none => none
theorem xNI (s : St) : xWI (some s) = some (.normal,s) := rfl
theorem xNJ : xWI none = none := rfl
theorem xQH {c : Prop} [Decidable c] (x y : Option St) : xWI (if c then x else y) = if c then xWI x else xWI y := by split <;> rfl
theorem xKb (ops : List AOper) : run R (.region ops) s = xWI (xAV R ops s) := by
  simp only [run,xWI]
  cases xAV R ops s <;> rfl
theorem xQI : run R .skip s = some (.normal,s) := rfl
theorem xNK : run R .label s = some (.normal,s) := rfl
theorem xQJ (i : Nat) : run R (.exit i) s = some (.exit i,s) := rfl
theorem xUB : run R .ret s = some (.ret,s) := rfl
theorem xNL (b : ACode) : run R (.scope b) s = run R b s := rfl
theorem xNM : run R .stuck s = none := rfl
def xZ3 (R : Rec) (rest : List AOper) : Option St → Option St
  | some s => xAV R rest s
  | none => none
theorem xKc : xAV R [] s = some s := rfl
theorem xHT (o : AOper) (rest : List AOper) : xAV R (o :: rest) s = xZ3 R rest (xBa R o s) := by
  simp only [xAV,xZ3]
  cases xBa R o s <;> rfl
theorem xNN (rest : List AOper) (s : St) : xZ3 R rest (some s) = xAV R rest s := rfl
theorem xNO (rest : List AOper) : xZ3 R rest none = none := rfl
theorem xQK (rest : List AOper) {c : Prop} [Decidable c] (x y : Option St) : xZ3 R rest (if c then x else y) = if c then xZ3 R rest x else xZ3 R rest y := by split <;> rfl
def xUC (F : List AV) (d : Option Nat) : Option (AV × Heap) → Option St
  | some (v,H) => some ⟨putA F d v,H⟩
  | none => none
theorem xUD (d : Nat) (v : AV) : xUC F (some d) (some (v,H)) = some ⟨F.set d v,H⟩ := rfl
theorem xUE (v : AV) : xUC F none (some (v,H)) = some ⟨F,H⟩ := rfl
theorem xNP (d : Option Nat) : xUC F d none = none := rfl
theorem xQL (d : Option Nat) {c : Prop} [Decidable c] (x y : Option (AV × Heap)) : xUC F d (if c then x else y) = if c then xUC F d x else xUC F d y := by split <;> rfl
theorem xNQ (d : Option Nat) (op : AOp) : xBa R ⟨d,op,none⟩ ⟨F,H⟩ = xUC F d (xAc R F H op) := by
  simp only [xBa,xB8,xUC]
  cases xAc R F H op <;> rfl
def xQM (R : Rec) (d : Option Nat) (op : AOp) (w : Bool) (F : List AV) (H : Heap) : AV → Option St
  | .bool b => if b = w then xUC F d (xAc R F H op) else some ⟨putA F d (.tup []),H⟩
  | .any => none
  | _ => some ⟨putA F d (.tup []),H⟩
theorem xKd (d : Option Nat) (op : AOp) (t : Nat) (w : Bool) : xBa R ⟨d,op,some (t,w)⟩ ⟨F,H⟩ = xQM R d op w F H (F.getD t .any) := by
  simp only [xBa,xB8,xQM]
  cases F.getD t .any with
  | bool b =>
    cases b <;> cases w <;> simp [xUC] <;> cases xAc R F H op <;> rfl
  | _ => rfl
theorem xHU (d : Option Nat) (op : AOp) (w b : Bool) : xQM R d op w F H (.bool b) = if b = w then xUC F d (xAc R F H op) else some ⟨putA F d (.tup []),H⟩ := rfl
theorem xKe (d : Option Nat) (op : AOp) (w : Bool) (vs : List AV) : xQM R d op w F H (.tup vs) = some ⟨putA F d (.tup []),H⟩ := rfl
theorem xUF (d : Nat) (v : AV) : putA F (some d) v = F.set d v := rfl
theorem xUG (v : AV) : putA F none v = F := rfl
def xPD (R : Rec) (m : Nat) (ops : List AOper) : Option St → Option (AExit × St)
  | some s => xWI (xAV R (ops.drop m) (adopt (ops.take m) s))
  | none => none
theorem xQN (m : Nat) (ops : List AOper) : run R (.draw m ops) s = xPD R m ops (xBo R (ops.take m) s) := by
  simp only [run,xPD]
  cases xBo R (ops.take m) s with
  | none => rfl
  | some s1 =>
    simp only [xWI]
    cases xAV R (ops.drop m) (adopt (ops.take m) s1) <;> rfl
theorem xKf (m : Nat) (ops : List AOper) (s : St) : xPD R m ops (some s) = xWI (xAV R (ops.drop m) (adopt (ops.take m) s)) := rfl
theorem xKg (m : Nat) (ops : List AOper) : xPD R m ops none = none := rfl
theorem xNR (m : Nat) (ops : List AOper) {c : Prop} [Decidable c] (x y : Option St) : xPD R m ops (if c then x else y) = if c then xPD R m ops x else xPD R m ops y := by split <;> rfl
def xEh (ls : List (Nat × Nat × Nat × Nat)) : Option St → Option (AExit × St)
  | some s => if ls.all (apart s.F) = true then some (.normal,s) else none
  | none => none
def xHV (R : Rec) (ls : List (Nat × Nat × Nat × Nat)) (m : Nat) (ops : List AOper) : Option St → Option (AExit × St)
  | some s => xEh ls (xAV R (ops.drop m) (adopt (ops.take m) s))
  | none => none
theorem xNS (ls : List (Nat × Nat × Nat × Nat)) (m : Nat) (ops : List AOper) : run R (.drawl ls m ops) s = xHV R ls m ops (xBo R (ops.take m) s) := by
  simp only [run,xHV]
  cases xBo R (ops.take m) s with
  | none => rfl
  | some s1 =>
    simp only [xEh]
    cases xAV R (ops.drop m) (adopt (ops.take m) s1) <;> rfl
theorem xHW (ls : List (Nat × Nat × Nat × Nat)) (m : Nat) (ops : List AOper) (s : St) : xHV R ls m ops (some s) = xEh ls (xAV R (ops.drop m) (adopt (ops.take m) s)) := rfl
theorem xHX (ls : List (Nat × Nat × Nat × Nat)) (m : Nat) (ops : List AOper) : xHV R ls m ops none = none := rfl
theorem xKh (ls : List (Nat × Nat × Nat × Nat)) (m : Nat) (ops : List AOper) {c : Prop} [Decidable c] (x y : Option St) : xHV R ls m ops (if c then x else y) = if c then xHV R ls m ops x else xHV R ls m ops y := by split <;> rfl
theorem xHY (ls : List (Nat × Nat × Nat × Nat)) (s : St) : xEh ls (some s) = if ls.all (apart s.F) = true then some (.normal,s) else none := rfl
theorem xHZ (ls : List (Nat × Nat × Nat × Nat)) : xEh ls none = none := rfl
theorem xKi (ls : List (Nat × Nat × Nat × Nat)) {c : Prop} [Decidable c] (x y : Option St) : xEh ls (if c then x else y) = if c then xEh ls x else xEh ls y := by split <;> rfl
def xPE (R : Rec) (rest : List AOper) : Option St → Option St
  | some s => xBo R rest s
  | none => none
theorem xH0 : xBo R [] s = some s := rfl
theorem xGx (o : AOper) (rest : List AOper) : xBo R (o :: rest) s = xPE R rest (xA8 R o s) := by
  simp only [xBo,xPE]
  cases xA8 R o s <;> rfl
theorem xKj (rest : List AOper) (s : St) : xPE R rest (some s) = xBo R rest s := rfl
theorem xKk (rest : List AOper) : xPE R rest none = none := rfl
theorem xNT (rest : List AOper) {c : Prop} [Decidable c] (x y : Option St) : xPE R rest (if c then x else y) = if c then xPE R rest x else xPE R rest y := by split <;> rfl
def xH1 (F : List AV) (d : Option Nat) (H : Heap) : Option (AV × Heap) → Option St
  | some (v,_) => some ⟨putA F d v,H⟩
  | none => none
theorem xQO (d : Nat) (v : AV) (H' : Heap) : xH1 F (some d) H (some (v,H')) = some ⟨F.set d v,H⟩ := rfl
theorem xQP (v : AV) (H' : Heap) : xH1 F none H (some (v,H')) = some ⟨F,H⟩ := rfl
theorem xKl (d : Option Nat) : xH1 F d H none = none := rfl
theorem xNU (d : Option Nat) {c : Prop} [Decidable c] (x y : Option (AV × Heap)) : xH1 F d H (if c then x else y) = if c then xH1 F d H x else xH1 F d H y := by split <;> rfl
def xBe (R : Rec) (F : List AV) (H : Heap) (op : AOp) : Option (AV × Heap) := (xAS R F H op).map fun v => (v,H)
theorem xKm (d : Option Nat) (op : AOp) : xA8 R ⟨d,op,none⟩ ⟨F,H⟩ = xH1 F d H (xBe R F H op) := by
  simp only [xA8,xB8,xH1,xBe]
  cases xAS R F H op <;> rfl
def xLH (R : Rec) (d : Option Nat) (op : AOp) (w : Bool) (F : List AV) (H : Heap) : AV → Option St
  | .bool b => if b = w then xH1 F d H (xBe R F H op) else some ⟨putA F d (.tup []),H⟩
  | .any => none
  | _ => some ⟨putA F d (.tup []),H⟩
theorem xH2 (d : Option Nat) (op : AOp) (t : Nat) (w : Bool) : xA8 R ⟨d,op,some (t,w)⟩ ⟨F,H⟩ = xLH R d op w F H (F.getD t .any) := by
  simp only [xA8,xB8,xLH]
  cases F.getD t .any with
  | bool b =>
    cases b <;> cases w <;> simp [xH1,xBe] <;> cases xAS R F H op <;> rfl
  | _ => rfl
theorem xGy (d : Option Nat) (op : AOp) (w b : Bool) : xLH R d op w F H (.bool b) = if b = w then xH1 F d H (xBe R F H op) else some ⟨putA F d (.tup []),H⟩ := rfl
theorem xH3 (d : Option Nat) (op : AOp) (w : Bool) (vs : List AV) : xLH R d op w F H (.tup vs) = some ⟨putA F d (.tup []),H⟩ := rfl
def xDH (H : Heap) : Option AV → Option (AV × Heap)
  | some v => some (v,H)
  | none => none
theorem xNV (v : AV) : xDH H (some v) = some (v,H) := rfl
theorem xNW : xDH H none = none := rfl
theorem xQQ {c : Prop} [Decidable c] (x y : Option AV) : xDH H (if c then x else y) = if c then xDH H x else xDH H y := by split <;> rfl
theorem xYI (x : Arg) : xAc R F H (.mov x) = some (opv F x,H) := rfl
def xZ4 : AV → AV → AV → Option AV
  | .bool t,a,b => some (if t = true then a else b)
  | _,_,_ => none
theorem xKn (t : Bool) (a b : AV) : xZ4 (.bool t) a b = some (if t = true then a else b) := rfl
theorem xUH (c a b : Arg) : xAc R F H (.pick c a b) = xDH H (xZ4 (opv F c) (opv F a) (opv F b)) := by
  simp only [xAc,xZ4,xDH]
  split <;> simp_all
theorem xYJ (x : Arg) : xAc R F H (.box x) = if (opv F x).cells.all AV.isCell = true then some (.ptr H.length 0,H ++ [.cells false false (opv F x).cells]) else none := rfl
theorem xQR (z : List AV) (parts : List (Nat × Nat × Arg)) : xAc R F H (.build z parts) =
    if parts.all (fun p => (opv F p.2.2).cells.length == p.2.1) = true then xDH H ((fillA z (parts.map fun p => (p.1,(opv F p.2.2).cells))).map AV.agg) else none := by
  simp only [xAc,xDH]
  split
  · cases fillA z (parts.map fun p => (p.1,(opv F p.2.2).cells)) <;> rfl
  · rfl
def yDu (fz z : Bool) (n es : Nat) (H : Heap) : Option (List AV) → Option (AV × Heap)
  | some cs => xDO fz z n es cs H
  | none => none
theorem xNX (fz z : Bool) (n es : Nat) (cs : List AV) : yDu fz z n es H (some cs) = xDO fz z n es cs H := rfl
theorem xQS (z : Bool) (n es : Nat) (cs : List AV) : xDO false z n es cs H = some (.own z H.length 0 n es,H ++ [.cells false z cs]) := rfl
def slK (z : Bool) (n : Nat) : Option (List AV) → Option AV
  | some cs => some (.sl z n cs)
  | none => none
theorem xQT (z : Bool) (n : Nat) (cs : List AV) : slK z n (some cs) = some (.sl z n cs) := rfl
theorem xNY (z : Bool) (n es : Nat) (cs : List AV) : xDO true z n es cs H = if (cs.flatMap (bor frzN H)).isEmpty = true then xDH H (slK z n (cs.mapM (frz frzN H))) else none := by
  simp only [xDO,xDH,slK]
  split
  · rename_i h
    cases cs.mapM (frz frzN H) <;> simp_all
  · simp_all
theorem xNZ (fz : Bool) (z : List AV) (es n : Nat) (parts : List (Nat × Arg)) : xAc R F H (.bslice fz z es n parts) =
    if parts.all (fun p => (opv F p.2).cells.length == es) = true then yDu fz false n es H (fillA (xC6 z n) (parts.map fun p => (p.1 * es,(opv F p.2).cells))) else none := by
  simp only [xAc,yDu]
  split
  · cases fillA (xC6 z n) (parts.map fun p => (p.1 * es,(opv F p.2).cells)) <;> rfl
  · rfl
def xXJ (g : Bool) : Option (List AV) → Option AV
  | some cs => mkv g cs
  | none => none
theorem xUI (v : AV) : xXJ false (some [v]) = some v := rfl
theorem xUJ (cs : List AV) : xXJ true (some cs) = some (.agg cs) := rfl
theorem xUK (g : Bool) (n : Nat) (p : Arg) : xAc R F H (.load g n p) = xDH H (xXJ g (rd H (opv F p) n)) := by
  simp only [xAc,xDH,xXJ]
  cases rd H (opv F p) n with
  | none => rfl
  | some cs => simp only; cases mkv g cs <;> rfl
def rdK (off n : Nat) : Option Blk → Option (List AV)
  | some (.cells _ _ cs) => if off + n ≤ cs.length then some ((cs.drop off).take n) else none
  | _ => none
theorem xYK (id off n : Nat) : rd H (.ptr id off) n = rdK off n H[id]? := by
  simp only [rd,rdK]
  rfl
theorem xN0 {off n : Nat} {fz z : Bool} {cs : List AV} (h : off + n ≤ cs.length) : rdK off n (some (.cells fz z cs)) = some ((cs.drop off).take n) := if_pos h
theorem xUL {off n : Nat} {cs : List AV} (h : off + n ≤ cs.length) : rd H (.vptr cs off) n = some ((cs.drop off).take n) := if_pos h
def wrK (H : Heap) (id off : Nat) (vs : List AV) : Option Blk → Option Heap
  | some (.cells false z cs) => if off + vs.length ≤ cs.length ∧ vs.all AV.isCell = true then some (H.set id (.cells false z (splice cs off vs))) else none
  | _ => none
theorem xYL (id off : Nat) (vs : List AV) : wr H (.ptr id off) vs = wrK H id off vs H[id]? := by
  simp only [wr,wrK]
  rfl
theorem xN1 {id off : Nat} {vs : List AV} {z : Bool} {cs : List AV} (h : off + vs.length ≤ cs.length) (h2 : vs.all AV.isCell = true) : wrK H id off vs (some (.cells false z cs)) = some (H.set id (.cells false z (splice cs off vs))) := if_pos ⟨h,h2⟩
def xUM : Option Heap → Option (AV × Heap)
  | some H => some (.tup [],H)
  | none => none
theorem xH4 (H : Heap) : xUM (some H) = some (.tup [],H) := rfl
theorem xQU (n : Nat) (p v : Arg) : xAc R F H (.store n p v) = if (opv F v).cells.length = n then xUM (wr H (opv F p) (opv F v).cells) else none := by
  simp only [xAc,xUM]
  split
  · cases wr H (opv F p) (opv F v).cells <;> rfl
  · rfl
def yCb : AV → Option AV
  | .ptr id off => some (.ptr id off)
  | .vptr cs off => some (.vptr cs off)
  | .func f caps => some (.func f caps)
  | .yield l => some (.yield l)
  | _ => none
theorem xQV (id off : Nat) : yCb (.ptr id off) = some (.ptr id off) := rfl
theorem xN2 (cs : List AV) (off : Nat) : yCb (.vptr cs off) = some (.vptr cs off) := rfl
theorem xN3 (f : Nat) (cs : List AV) : yCb (.func f cs) = some (.func f cs) := rfl
theorem xKo (l : Nat) : yCb (.yield l) = some (.yield l) := rfl
theorem xN4 (x : Arg) : xAc R F H (.nilchk x) = xDH H (yCb (opv F x)) := by
  simp only [xAc]
  cases opv F x <;> rfl
theorem xYM (op : BinOp) (x y : Arg) : xAc R F H (.bin op x y) = xDH H (xDG op (opv F x) (opv F y)) := by
  simp only [xAc,xDH]
  cases xDG op (opv F x) (opv F y) <;> rfl
section
variable (k : IntKind) (a b : Int)
theorem xUN : xDG .add (.int k a) (.int k b) = some (.int k (k.wrap (a + b))) := by simp [xDG]
theorem xUO : xDG .sub (.int k a) (.int k b) = some (.int k (k.wrap (a - b))) := by simp [xDG]
theorem xUP : xDG .mul (.int k a) (.int k b) = some (.int k (k.wrap (a * b))) := by simp [xDG]
theorem xUQ (h : b ≠ 0) : xDG .quo (.int k a) (.int k b) = some (.int k (k.wrap (a.tdiv b))) := by simp [xDG,h]
theorem xUR (h : b ≠ 0) : xDG .rem (.int k a) (.int k b) = some (.int k (a.tmod b)) := by simp [xDG,h]
theorem xUS : xDG .and (.int k a) (.int k b) = some (.int k (xGT .and k a b)) := by simp [xDG]
theorem xYN : xDG .or (.int k a) (.int k b) = some (.int k (xGT .or k a b)) := by simp [xDG]
theorem xUT : xDG .xor (.int k a) (.int k b) = some (.int k (xGT .xor k a b)) := by simp [xDG]
theorem xKp : xDG .andNot (.int k a) (.int k b) = some (.int k (xGT .andNot k a b)) := by simp [xDG]
theorem xUU (k' : IntKind) (h : 0 ≤ b) : xDG .shl (.int k a) (.int k' b) = some (.int k (k.wrap (a * 2 ^ (min b.toNat k.bits)))) := by simp only [xDG]; rw [if_neg (by omega)]
theorem xUV (k' : IntKind) (h : 0 ≤ b) : xDG .shr (.int k a) (.int k' b) = some (.int k (a.fdiv (2 ^ (min b.toNat k.bits)))) := by simp only [xDG]; rw [if_neg (by omega)]
theorem xUW : xDG .eql (.int k a) (.int k b) = some (.bool (decide (a = b))) := by simp [xDG]; rfl
theorem xUX : xDG .neq (.int k a) (.int k b) = some (.bool (!decide (a = b))) := by simp [xDG]; rfl
theorem xUY : xDG .lss (.int k a) (.int k b) = some (.bool (decide (a < b))) := by simp [xDG]
theorem xUZ : xDG .leq (.int k a) (.int k b) = some (.bool (decide (a ≤ b))) := by simp [xDG]
theorem xU0 : xDG .gtr (.int k a) (.int k b) = some (.bool (decide (b < a))) := by simp [xDG]
theorem xU1 : xDG .geq (.int k a) (.int k b) = some (.bool (decide (b ≤ a))) := by simp [xDG]
end
def yDv (neg : Bool) : AV → AV → Option AV
  | .bool a,.bool b => some (.bool (if neg = true then a != b else a == b))
  | _,_ => none
theorem xYO (a b : Bool) : yDv false (.bool a) (.bool b) = some (.bool (decide (a = b))) := by cases a <;> cases b <;> rfl
theorem xYP (a b : Bool) : yDv true (.bool a) (.bool b) = some (.bool (!decide (a = b))) := by cases a <;> cases b <;> rfl
theorem xYQ (neg : Bool) (x y : Arg) : xAc R F H (.beq neg x y) = xDH H (yDv neg (opv F x) (opv F y)) := by
  simp only [xAc]
  cases opv F x <;> cases opv F y <;> rfl
def xN5 (neg : Bool) : AV → Option AV
  | .sl z _ _ => some (.bool (z != neg))
  | .own z _ _ _ _ => some (.bool (z != neg))
  | _ => none
theorem xKq (z : Bool) (n : Nat) (cs : List AV) : xN5 false (.sl z n cs) = some (.bool z) := by cases z <;> rfl
theorem xKr (z : Bool) (n : Nat) (cs : List AV) : xN5 true (.sl z n cs) = some (.bool (!z)) := by cases z <;> rfl
theorem xH5 (z : Bool) (id off n es : Nat) : xN5 false (.own z id off n es) = some (.bool z) := by cases z <;> rfl
theorem xH6 (z : Bool) (id off n es : Nat) : xN5 true (.own z id off n es) = some (.bool (!z)) := by cases z <;> rfl
theorem xQW (neg : Bool) (x : Arg) : xAc R F H (.isnil neg x) = xDH H (xN5 neg (opv F x)) := by
  simp only [xAc]
  cases opv F x <;> rfl
theorem yCc (op : UnOp) (x : Arg) : xAc R F H (.un op x) = xDH H (unA op (opv F x)) := by
  simp only [xAc,xDH]
  cases unA op (opv F x) <;> rfl
theorem xYR (b : Bool) : unA .not (.bool b) = some (.bool !b) := rfl
theorem xYS (k : IntKind) (n : Int) : unA .neg (.int k n) = some (.int k (k.wrap (0 - n))) := rfl
theorem xYT (k : IntKind) (n : Int) : unA .xor (.int k n) = some (.int k (xGT .xor k (if k.signed then -1 else k.max) n)) := rfl
def yCd (k : IntKind) : AV → Option AV
  | .int _ n => some (.int k (k.wrap n))
  | _ => none
theorem xN6 (k k' : IntKind) (n : Int) : yCd k (.int k' n) = some (.int k (k.wrap n)) := rfl
theorem xU2 (k : IntKind) (x : Arg) : xAc R F H (.conv k x) = xDH H (yCd k (opv F x)) := by
  simp only [xAc]
  cases opv F x <;> rfl
theorem xN7 (f : Nat) (caps : List Arg) : xAc R F H (.mkfunc f caps) = some (.func f (caps.map (opv F)),H) := rfl
def yEs (fz : Bool) (z : List AV) (bytes : Nat) (H : Heap) : AV → AV → Option (AV × Heap)
  | .int _ l,.int _ c => if 0 ≤ l ∧ l ≤ c ∧ c * bytes ≤ xBy ∧ c ≤ xBy ∧ z.all AV.isCell = true then xDO fz false l.toNat z.length (xC6 z l.toNat) H else none
  | _,_ => none
theorem xQX (fz : Bool) (z : List AV) (bytes : Nat) (k k' : IntKind) {l c : Int} (h1 : 0 ≤ l) (h2 : l ≤ c) (h3 : c * bytes ≤ 140737488355328) (h4 : c ≤ 140737488355328) (h5 : z.all AV.isCell = true) : yEs fz z bytes H (.int k l) (.int k' c) = xDO fz false l.toNat z.length (xC6 z l.toNat) H := if_pos ⟨h1,h2,h3,h4,h5⟩
theorem xKs (fz : Bool) (z : List AV) (bytes : Nat) (l c : Arg) : xAc R F H (.mkslice fz z bytes l c) = yEs fz z bytes H (opv F l) (opv F c) := by
  simp only [xAc]
  cases opv F l <;> cases opv F c <;> rfl
def xZ5 (es : Nat) (H : Heap) (x : AV) : Option (Nat × Nat) → Option AV
  | none => none
  | some (l,h) => match x with
    | .sl z _ cs => some (.sl z (h - l) ((cs.drop (l * es)).take ((h - l) * es)))
    | .own z id off _ _ => some (.own z id (off + l * es) (h - l) es)
    | _ => none
def xQY (es : Nat) (H : Heap) (lo hi mx : Option AV) : AV → Option AV
  | .sl z n cs => if cs.length = n * es then xZ5 es H (.sl z n cs) (xBE n lo hi mx) else none
  | .own z id off n es' => if es' = es then xZ5 es H (.own z id off n es') (xBE n lo hi mx) else none
  | _ => none
theorem xQZ (es : Nat) (x : Arg) (lo hi mx : Option Arg) : xAc R F H (.slice es x lo hi mx) = xDH H (xQY es H (lo.map (opv F)) (hi.map (opv F)) (mx.map (opv F)) (opv F x)) := by
  simp only [xAc,xDH,xQY,xZ5]
  cases opv F x with
  | sl z n cs =>
    simp only
    split
    · cases xBE n (lo.map (opv F)) (hi.map (opv F)) (mx.map (opv F)) <;> rfl
    · rfl
  | own z id off n es' =>
    simp only
    split
    · cases xBE n (lo.map (opv F)) (hi.map (opv F)) (mx.map (opv F)) <;> rfl
    · rfl
  | _ => rfl
theorem xN8 {es n : Nat} {z : Bool} {cs : List AV} (lo hi mx : Option AV) (h : cs.length = n * es) : xQY es H lo hi mx (.sl z n cs) = xZ5 es H (.sl z n cs) (xBE n lo hi mx) := if_pos h
theorem xKt {es n id off : Nat} {z : Bool} (lo hi mx : Option AV) : xQY es H lo hi mx (.own z id off n es) = xZ5 es H (.own z id off n es) (xBE n lo hi mx) := if_pos rfl
theorem xU3 (es : Nat) (z : Bool) (n : Nat) (cs : List AV) (l h : Nat) : xZ5 es H (.sl z n cs) (some (l,h)) = some (.sl z (h - l) ((cs.drop (l * es)).take ((h - l) * es))) := rfl
theorem xQ0 (es : Nat) (z : Bool) (id off n es' : Nat) (l h : Nat) : xZ5 es H (.own z id off n es') (some (l,h)) = some (.own z id (off + l * es) (h - l) es) := rfl
theorem xN9 (n : Nat) : xBE n none none none = some (0,n) := by simp [xBE]
theorem xOa {n : Nat} {k : IntKind} {l : Int} (h0 : 0 ≤ l) (h : l ≤ n) : xBE n (some (.int k l)) none none = some (l.toNat,n) := by
  simp only [xBE,xCv,if_pos h0]
  rw [if_pos ⟨by omega,by omega⟩]
theorem xOb {n : Nat} {k : IntKind} {m : Int} (h0 : 0 ≤ m) (h : m ≤ n) : xBE n none (some (.int k m)) none = some (0,m.toNat) := by
  simp only [xBE,xCv,if_pos h0]
  rw [if_pos ⟨by omega,by omega⟩]
theorem xOc {n : Nat} {k k' : IntKind} {l m : Int} (h0 : 0 ≤ l) (h1 : l ≤ m) (h : m ≤ n) : xBE n (some (.int k l)) (some (.int k' m)) none = some (l.toNat,m.toNat) := by
  have h2 : 0 ≤ m := by omega
  simp only [xBE,xCv,if_pos h0,if_pos h2]
  rw [if_pos ⟨by omega,by omega⟩]
def xU4 (o : Nat) : AV → Option AV
  | .ptr id off => some (.ptr id (off + o))
  | .vptr cs off => some (.vptr cs (off + o))
  | _ => none
theorem xKu (o id off : Nat) : xU4 o (.ptr id off) = some (.ptr id (off + o)) := rfl
theorem xH7 (o : Nat) (cs : List AV) (off : Nat) : xU4 o (.vptr cs off) = some (.vptr cs (off + o)) := rfl
theorem xQ1 (o : Nat) (x : Arg) : xAc R F H (.faddr o x) = xDH H (xU4 o (opv F x)) := by
  simp only [xAc]
  cases opv F x <;> rfl
def xU5 (g : Bool) (off n : Nat) : AV → Option AV
  | .agg cs => if off + n ≤ cs.length then mkv g ((cs.drop off).take n) else none
  | _ => none
theorem xKv {g : Bool} {off n : Nat} {cs : List AV} (h : off + n ≤ cs.length) : xU5 g off n (.agg cs) = mkv g ((cs.drop off).take n) := if_pos h
theorem yCe (v : AV) : mkv false [v] = some v := rfl
theorem yCf (cs : List AV) : mkv true cs = some (.agg cs) := rfl
theorem xQ2 (g : Bool) (off n : Nat) (x : Arg) : xAc R F H (.field g off n x) = xDH H (xU5 g off n (opv F x)) := by
  simp only [xAc]
  cases opv F x with
  | agg cs =>
    simp only [xU5,xDH]
    split
    · cases mkv g ((cs.drop off).take n) <;> rfl
    · rfl
  | _ => rfl
def xKw (es : Nat) : AV → AV → Option AV
  | .sl _ n cs,.int _ i => if 0 ≤ i ∧ i.toNat < n then some (.vptr cs (i.toNat * es)) else none
  | .own _ id off n es',.int _ i => if 0 ≤ i ∧ i.toNat < n ∧ es' = es then some (.ptr id (off + i.toNat * es)) else none
  | _,_ => none
theorem xOd {es n : Nat} {z : Bool} {cs : List AV} {k : IntKind} {i : Int} (h0 : 0 ≤ i) (h : i < n) : xKw es (.sl z n cs) (.int k i) = some (.vptr cs (i.toNat * es)) := if_pos ⟨h0,by omega⟩
theorem xKx {es n id off : Nat} {z : Bool} {k : IntKind} {i : Int} (h0 : 0 ≤ i) (h : i < n) : xKw es (.own z id off n es) (.int k i) = some (.ptr id (off + i.toNat * es)) := if_pos ⟨h0,by omega,rfl⟩
theorem xQ3 (es : Nat) (x i : Arg) : xAc R F H (.iaddr es x i) = xDH H (xKw es (opv F x) (opv F i)) := by
  simp only [xAc]
  cases opv F x with
  | sl z n cs =>
    cases opv F i with
    | int k j =>
      simp only [xCv,xKw,xDH]
      by_cases h : 0 ≤ j
      · by_cases h2 : j.toNat < n <;> simp [h,h2]
      · simp [h]
    | _ => rfl
  | own z id off n es' =>
    cases opv F i with
    | int k j =>
      simp only [xCv,xKw,xDH]
      by_cases h : 0 ≤ j
      · by_cases h2 : j.toNat < n
        · by_cases h3 : es' = es <;> simp [h,h2,h3]
        · simp [h,h2]
      · simp [h]
    | _ => rfl
  | _ => cases opv F i <;> simp [xKw,xDH,xCv] <;> split <;> simp_all
def yDw (i : Nat) : AV → Option AV
  | .tup vs => vs[i]?
  | _ => none
theorem xQ4 (i : Nat) (vs : List AV) : yDw i (.tup vs) = vs[i]? := rfl
theorem xYU (i : Nat) (x : Arg) : xAc R F H (.ext i x) = xDH H (yDw i (opv F x)) := by
  simp only [xAc]
  cases opv F x with
  | tup vs => simp only [yDw,xDH]; cases vs[i]? <;> rfl
  | _ => rfl
def yCg : AV → Option AV
  | .sl _ n _ => some (.int .i64 n)
  | .own _ _ _ n _ => some (.int .i64 n)
  | _ => none
theorem xU6 (z : Bool) (n : Nat) (cs : List AV) : yCg (.sl z n cs) = some (.int .i64 n) := rfl
theorem xQ5 (z : Bool) (id off n es : Nat) : yCg (.own z id off n es) = some (.int .i64 n) := rfl
theorem xYV (x : Arg) : xAc R F H (.len x) = xDH H (yCg (opv F x)) := by
  simp only [xAc]
  cases opv F x <;> rfl
theorem xYW (x : Arg) : xAc R F H (.cap x) = match opv F x with
  | .sl true _ _ => some (.int .i64 0,H)
  | _ => none := rfl
def yDx (neg : Bool) (n : Nat) : AV → AV → Option AV
  | .agg cs,.agg ds => if cs.length = n then (xB3 cs ds).map fun b => .bool (b != neg) else none
  | _,_ => none
theorem xQ6 {neg : Bool} {n : Nat} {cs ds : List AV} (h : cs.length = n) : yDx neg n (.agg cs) (.agg ds) = (xB3 cs ds).map fun b => .bool (b != neg) := if_pos h
theorem xYX (neg : Bool) (n : Nat) (x y : Arg) : xAc R F H (.aeq neg n x y) = xDH H (yDx neg n (opv F x) (opv F y)) := by
  simp only [xAc]
  cases opv F x with
  | agg cs => cases opv F y with
    | agg ds =>
      simp only [yDx,xDH]
      split
      · cases xB3 cs ds <;> rfl
      · rfl
    | _ => rfl
  | _ => rfl
def xXK (fz : Bool) (es bytes : Nat) (H : Heap) (x : AV) : Option (Nat × List AV) → Option (AV × Heap)
  | none => none
  | some (m,ys) => match x with
    | .sl true _ _ => if m * bytes ≤ xBy ∧ m ≤ xBy then xDO fz (m == 0) m es ys H else none
    | .own z id off n es' => match H[id]? with
      | some (.cells false _ cs) => if off = 0 ∧ es' = es ∧ n * es ≤ cs.length ∧ (n + m) * bytes ≤ xBy ∧ n + m ≤ xBy then
          some (.own (z && m == 0) H.length 0 (n + m) es,H.set id .dead ++ [.cells false (z && m == 0) (cs.take (n * es) ++ ys)]) else none
      | _ => none
    | _ => none
theorem xH8 (fz : Bool) (es bytes : Nat) (x y : Arg) : xAc R F H (.append fz es bytes x y) = xXK fz es bytes H (opv F x) (src H es (opv F y)) := by
  simp only [xAc,xXK]
  cases src H es (opv F y) <;> rfl
theorem xLI {fz : Bool} {es bytes n m : Nat} {cs ys : List AV} (h : m * bytes ≤ 140737488355328) (h2 : m ≤ 140737488355328) : xXK fz es bytes H (.sl true n cs) (some (m,ys)) = xDO fz (m == 0) m es ys H := if_pos ⟨h,h2⟩
def xZ6 (es bytes n m : Nat) (H : Heap) (z : Bool) (id : Nat) (ys : List AV) : Option Blk → Option (AV × Heap)
  | some (.cells false _ cs) => if n * es ≤ cs.length ∧ (n + m) * bytes ≤ xBy ∧ n + m ≤ xBy then
      some (.own (z && m == 0) H.length 0 (n + m) es,H.set id .dead ++ [.cells false (z && m == 0) (cs.take (n * es) ++ ys)]) else none
  | _ => none
theorem xLJ (fz : Bool) (es bytes n m id : Nat) (z : Bool) (ys : List AV) : xXK fz es bytes H (.own z id 0 n es) (some (m,ys)) = xZ6 es bytes n m H z id ys H[id]? := by
  simp only [xXK,xZ6]
  split
  · rename_i z' cs hb
    by_cases h : n * es ≤ cs.length ∧ (n + m) * bytes ≤ xBy ∧ n + m ≤ xBy
    · rw [if_pos h,if_pos ⟨trivial,trivial,h⟩]
    · rw [if_neg h,if_neg (fun g => h g.2.2)]
  · rename_i hne
    cases hb : H[id]? with
    | none => rfl
    | some b => cases b with
      | cells fz z cs => cases fz with
        | false => exact (hne _ _ hb).elim
        | true => rfl
      | _ => rfl
theorem xH9 {es bytes n m id : Nat} {z z' : Bool} {ys cs : List AV} (h : n * es ≤ cs.length) (h2 : (n + m) * bytes ≤ 140737488355328) (h3 : n + m ≤ 140737488355328) : xZ6 es bytes n m H z id ys (some (.cells false z' cs)) =
    some (.own (z && m == 0) H.length 0 (n + m) es,H.set id .dead ++ [.cells false (z && m == 0) (cs.take (n * es) ++ ys)]) := if_pos ⟨h,h2,h3⟩
theorem xYY {es n : Nat} {z : Bool} {cs : List AV} (h : cs.length = n * es) : src H es (.sl z n cs) = some (n,cs) := if_pos h
def yDy (off n es : Nat) : Option Blk → Option (Nat × List AV)
  | some (.cells _ _ cs) => if off + n * es ≤ cs.length then some (n,(cs.drop off).take (n * es)) else none
  | _ => none
theorem xU7 (es n id off : Nat) (z : Bool) : src H es (.own z id off n es) = yDy off n es H[id]? := by
  simp only [src,yDy]
  cases H[id]? with
  | none => rfl
  | some b => cases b <;> simp
theorem xKy {es n off : Nat} {fz z : Bool} {cs : List AV} (h : off + n * es ≤ cs.length) : yDy off n es (some (.cells fz z cs)) = some (n,(cs.drop off).take (n * es)) := if_pos h
def xOe (z : List AV) (bytes : Nat) (H : Heap) : AV → AV → Option (AV × Heap)
  | .sl true _ _,.int _ m => if 0 ≤ m ∧ m.toNat * bytes ≤ xBy ∧ m.toNat ≤ xBy ∧ z.all AV.isCell = true then xDO false (m.toNat == 0) m.toNat z.length (xC6 z m.toNat) H else none
  | _,_ => none
theorem xKz (z : List AV) (bytes : Nat) (x n : Arg) : xAc R F H (.appendz z bytes x n) = xOe z bytes H (opv F x) (opv F n) := by
  simp only [xAc]
  cases hn : opv F n with
  | int k m =>
    simp only [xCv]
    by_cases h : 0 ≤ m
    · cases hx : opv F x with
      | sl zz nn cs => cases zz <;> simp [xOe,h]
      | _ => simp [xOe,h]
    · cases hx : opv F x with
      | sl zz nn cs => cases zz <;> simp [xOe,h]
      | _ => simp [xOe,h]
  | _ =>
    cases hx : opv F x with
    | sl zz nn cs => cases zz <;> simp [xOe,xCv]
    | _ => simp [xOe,xCv]
theorem xOf {z : List AV} {bytes n : Nat} {cs : List AV} {k : IntKind} {m : Int} (h0 : 0 ≤ m) (h1 : m.toNat * bytes ≤ 140737488355328) (h2 : m.toNat ≤ 140737488355328) (h3 : z.all AV.isCell = true) : xOe z bytes H (.sl true n cs) (.int k m) = xDO false (m.toNat == 0) m.toNat z.length (xC6 z m.toNat) H := if_pos ⟨h0,h1,h2,h3⟩
def yDz : AV → AV → Option AV
  | .int k a,.int _ b => some (.int k (max a b))
  | _,_ => none
def yDA : AV → AV → Option AV
  | .int k a,.int _ b => some (.int k (min a b))
  | _,_ => none
theorem xQ7 (k k' : IntKind) (a b : Int) : yDz (.int k a) (.int k' b) = some (.int k (max a b)) := rfl
theorem xQ8 (k k' : IntKind) (a b : Int) : yDA (.int k a) (.int k' b) = some (.int k (min a b)) := rfl
theorem xU8 (x y : Arg) : xAc R F H (.maxi x y) = xDH H (yDz (opv F x) (opv F y)) := by
  simp only [xAc]
  cases opv F x with
  | int k a => cases opv F y with
    | int k' b => simp only [yDz,xDH]; congr 3; split <;> omega
    | _ => rfl
  | _ => rfl
theorem xU9 (x y : Arg) : xAc R F H (.mini x y) = xDH H (yDA (opv F x) (opv F y)) := by
  simp only [xAc]
  cases opv F x with
  | int k a => cases opv F y with
    | int k' b => simp only [yDA,xDH]; congr 3; split <;> omega
    | _ => rfl
  | _ => rfl
theorem xYZ (z : List AV) : xC6 z 0 = [] := rfl
theorem xY0 (z : List AV) : xC6 z 1 = z ++ ([]) := rfl
theorem xY1 (z : List AV) : xC6 z 2 = z ++ (z ++ ([])) := rfl
theorem xY2 (z : List AV) : xC6 z 3 = z ++ (z ++ (z ++ ([]))) := rfl
theorem xY3 (z : List AV) : xC6 z 4 = z ++ (z ++ (z ++ (z ++ ([])))) := rfl
theorem xY4 (z : List AV) : xC6 z 5 = z ++ (z ++ (z ++ (z ++ (z ++ ([]))))) := rfl
theorem xY5 (z : List AV) : xC6 z 6 = z ++ (z ++ (z ++ (z ++ (z ++ (z ++ ([])))))) := rfl
theorem xY6 (z : List AV) : xC6 z 7 = z ++ (z ++ (z ++ (z ++ (z ++ (z ++ (z ++ ([]))))))) := rfl
theorem xY7 (z : List AV) : xC6 z 8 = z ++ (z ++ (z ++ (z ++ (z ++ (z ++ (z ++ (z ++ ([])))))))) := rfl
theorem xY8 (z : List AV) : xC6 z 9 = z ++ (z ++ (z ++ (z ++ (z ++ (z ++ (z ++ (z ++ (z ++ ([]))))))))) := rfl
theorem xVa (z : List AV) : xC6 z 10 = z ++ (z ++ (z ++ (z ++ (z ++ (z ++ (z ++ (z ++ (z ++ (z ++ ([])))))))))) := rfl
theorem xVb (z : List AV) : xC6 z 11 = z ++ (z ++ (z ++ (z ++ (z ++ (z ++ (z ++ (z ++ (z ++ (z ++ (z ++ ([]))))))))))) := rfl
theorem xVc (z : List AV) : xC6 z 12 = z ++ (z ++ (z ++ (z ++ (z ++ (z ++ (z ++ (z ++ (z ++ (z ++ (z ++ (z ++ ([])))))))))))) := rfl
theorem xIa (d : Nat) (k : IntKind) (n : Int) : frz d H (.int k n) = some (.int k n) := by cases d <;> rfl
theorem xQ9 (d : Nat) (b : Bool) : frz d H (.bool b) = some (.bool b) := by cases d <;> rfl
theorem xVd (d : Nat) (b : ByteArray) : frz d H (.str b) = some (.str b) := by cases d <;> rfl
theorem xRa (d : Nat) : frz d H .nilp = some .nilp := by cases d <;> rfl
theorem xRb (d : Nat) : frz d H .nilf = some .nilf := by cases d <;> rfl
theorem xVe (d : Nat) : frz d H .any = some .any := by cases d <;> rfl
theorem xRc (d f : Nat) : frz d H (.func f []) = some (.func f []) := by cases d <;> rfl
theorem xRd (d : Nat) (z : Bool) (n : Nat) (cs : List AV) : frz d H (.sl z n cs) = some (.sl z n cs) := by cases d <;> rfl
theorem xVf (d : Nat) (cs : List AV) : frz (d + 1) H (.agg cs) = (cs.mapM (frz d H)).map AV.agg := rfl
theorem xVg (d : Nat) (cs : List AV) : frz (d + 1) H (.tup cs) = (cs.mapM (frz d H)).map AV.tup := rfl
def yDB (d : Nat) (H : Heap) (z : Bool) (off n es : Nat) : Option Blk → Option AV
  | some (.cells _ _ cs) => if off + n * es ≤ cs.length then slK z n (((cs.drop off).take (n * es)).mapM (frz d H)) else none
  | _ => none
theorem xAd (d : Nat) (z : Bool) (id off n es : Nat) : frz (d + 1) H (.own z id off n es) = yDB d H z off n es H[id]? := by
  simp only [frz,yDB]
  cases H[id]? with
  | none => rfl
  | some b => cases b with
    | cells fz z' cs =>
      simp only
      split
      · cases ((cs.drop off).take (n * es)).mapM (frz d H) <;> rfl
      · rfl
    | _ => rfl
theorem xKA {d off n es : Nat} {z fz z' : Bool} {cs : List AV} (h : off + n * es ≤ cs.length) : yDB d H z off n es (some (.cells fz z' cs)) = slK z n (((cs.drop off).take (n * es)).mapM (frz d H)) := if_pos h
theorem xF1 (d : Nat) (k : IntKind) (n : Int) : bor d H (.int k n) = [] := by cases d <;> rfl
theorem xRe (d : Nat) (b : Bool) : bor d H (.bool b) = [] := by cases d <;> rfl
theorem xVh (d : Nat) (b : ByteArray) : bor d H (.str b) = [] := by cases d <;> rfl
theorem xRf (d : Nat) : bor d H .nilp = [] := by cases d <;> rfl
theorem xRg (d : Nat) : bor d H .nilf = [] := by cases d <;> rfl
theorem xVi (d : Nat) : bor d H .any = [] := by cases d <;> rfl
theorem xRh (d f : Nat) (cs : List AV) : bor d H (.func f cs) = [] := by cases d <;> rfl
theorem xY9 (ss : List Nat) (b : ACode) (s : St) : run R (.fz ss b) s = run R b ⟨s.F,fzIds s.H (ss.flatMap fun i => bor frzN s.H (s.F.getD i .any))⟩ := rfl
def yDC (R : Rec) (i : Nat) (b : ACode) (s : St) (ids : List Nat) : Option AV → Option (AExit × St)
  | some v => run R b ⟨s.F.set i v,fzIds s.H ids⟩
  | none => none
theorem xVj (i : Nat) (b : ACode) (s : St) : run R (.fzs i b) s = yDC R i b s (bor frzN s.H (s.F.getD i .any)) (frz frzN s.H (s.F.getD i .any)) := by
  simp only [run,yDC]
  cases frz frzN s.H (s.F.getD i .any) <;> rfl
theorem xOg (i : Nat) (b : ACode) (s : St) (ids : List Nat) (v : AV) : yDC R i b s ids (some v) = run R b ⟨s.F.set i v,fzIds s.H ids⟩ := rfl
def yDD (d : Nat) (H : Heap) (off : Nat) : Option Blk → Option AV
  | some (.cells _ _ cs) => (cs.mapM (frz d H)).map fun cs' => .vptr cs' off
  | _ => none
theorem xVk (d i o : Nat) : frz (d + 1) H (.ptr i o) = yDD d H o H[i]? := by
  simp only [frz,yDD]
  cases H[i]? with
  | none => rfl
  | some b => cases b <;> rfl
theorem xKB (d : Nat) (o : Nat) (fz z : Bool) (cs : List AV) : yDD d H o (some (.cells fz z cs)) = (cs.mapM (frz d H)).map fun cs' => .vptr cs' o := rfl
theorem xRi (d : Nat) (cs : List AV) (o : Nat) : frz d H (.vptr cs o) = some (.vptr cs o) := by cases d <;> rfl
def xZ7 (d : Nat) (H : Heap) : Option Blk → List Nat
  | some (.cells _ _ cs) => cs.flatMap (bor d H)
  | _ => []
theorem xVl (d i o : Nat) : bor (d + 1) H (.ptr i o) = i :: xZ7 d H H[i]? := by
  simp only [bor,xZ7]
  cases H[i]? with
  | none => rfl
  | some b => cases b <;> rfl
theorem xIb (d : Nat) (fz z : Bool) (cs : List AV) : xZ7 d H (some (.cells fz z cs)) = cs.flatMap (bor d H) := rfl
theorem xRj (d : Nat) (cs : List AV) (o : Nat) : bor d H (.vptr cs o) = [] := by cases d <;> rfl
def xZ8 : Option Blk → Bool
  | some (.cells true _ _) => true
  | _ => false
theorem xKC (i : Nat) : xFZ H i = xZ8 H[i]? := by
  simp only [xFZ,xZ8]
  cases H[i]? with
  | none => rfl
  | some b => cases b with
    | cells fz z cs => cases fz <;> rfl
    | _ => rfl
theorem xVm (z : Bool) (cs : List AV) : xZ8 (some (.cells true z cs)) = true := rfl
theorem xZa (d : Nat) (z : Bool) (n : Nat) (cs : List AV) : bor d H (.sl z n cs) = [] := by cases d <;> rfl
theorem xVn (d : Nat) (cs : List AV) : bor (d + 1) H (.agg cs) = cs.flatMap (bor d H) := rfl
theorem xVo (d : Nat) (cs : List AV) : bor (d + 1) H (.tup cs) = cs.flatMap (bor d H) := rfl
def yDE (d : Nat) (H : Heap) (off n es : Nat) : Option Blk → List Nat
  | some (.cells _ _ cs) => ((cs.drop off).take (n * es)).flatMap (bor d H)
  | _ => []
theorem xAe (d : Nat) (z : Bool) (id off n es : Nat) : bor (d + 1) H (.own z id off n es) = id :: yDE d H off n es H[id]? := by
  simp only [bor,yDE]
  cases H[id]? with
  | none => rfl
  | some b => cases b <;> rfl
theorem xKD (d off n es : Nat) (fz z : Bool) (cs : List AV) : yDE d H off n es (some (.cells fz z cs)) = ((cs.drop off).take (n * es)).flatMap (bor d H) := rfl
def xZb (args : List AV) (H : Heap) : Option AV → Option (AV × Heap)
  | some r => some (r,if xAK r = true then H else fzIds H (args.flatMap (bor frzN H)))
  | none => none
theorem xOh (args : List AV) (r : AV) : xZb args H (some r) = some (r,if xAK r = true then H else fzIds H (args.flatMap (bor frzN H))) := rfl
theorem xOi (args : List AV) : xZb args H none = none := rfl
theorem xRk (args : List AV) {c : Prop} [Decidable c] (x y : Option AV) : xZb args H (if c then x else y) = if c then xZb args H x else xZb args H y := by split <;> rfl
def yDF (R : Rec) (f : Nat) (args : List AV) (H : Heap) : Option (List AV) → Option (AV × Heap)
  | some args' => xZb args H (R.pcall f args')
  | none => none
theorem xOj (f : Nat) (args args' : List AV) : yDF R f args H (some args') = xZb args H (R.pcall f args') := rfl
theorem xOk (f : Nat) (args : List AV) : xBP R f args H = yDF R f args H (args.mapM (frz frzN H)) := by
  simp only [xBP,yDF]
  cases args.mapM (frz frzN H) with
  | none => rfl
  | some args' => simp only [xZb]; cases R.pcall f args' <;> rfl
theorem xVp (f : Nat) (args : List Arg) : xAc R F H (.call f args) = xBP R f (args.map (opv F)) H := rfl
theorem xRl (f : Arg) (args : List Arg) : xAc R F H (.icall f args) = R.icall (opv F f) (args.map (opv F)) H := rfl
def xZc (R : Rec) (args : List AV) (H : Heap) : AV → Option (AV × Heap)
  | .func g caps => xBP R g (args ++ caps) H
  | _ => none
theorem xIc (args : List AV) (g : Nat) (caps : List AV) : xZc R args H (.func g caps) = xBP R g (args ++ caps) H := rfl
theorem xRm (f : Arg) (args : List Arg) : xAc R F H (.fcall f args) = xZc R (args.map (opv F)) H (opv F f) := by
  simp only [xAc]
  cases opv F f <;> rfl
def xEB (args : List AV) (H : Heap) : Option (AV × Heap) → Option (AV × Heap)
  | some (r,_) => if quietCall r H args = true then some (r,H) else none
  | none => none
theorem xId (args : List AV) (r : AV) (H' : Heap) : xEB args H (some (r,H')) = if quietCall r H args = true then some (r,H) else none := rfl
theorem xIe (args : List AV) : xEB args H none = none := rfl
theorem xKE (args : List AV) {c : Prop} [Decidable c] (x y : Option (AV × Heap)) : xEB args H (if c then x else y) = if c then xEB args H x else xEB args H y := by split <;> rfl
theorem xVq (f : Nat) (args : List Arg) : xBe R F H (.call f args) = xEB (args.map (opv F)) H (xBP R f (args.map (opv F)) H) := by
  simp only [xBe,xAS,xEB]
  cases xBP R f (args.map (opv F)) H with
  | none => rfl
  | some r => obtain ⟨r,H'⟩ := r; simp only; split <;> rfl
def xPF (R : Rec) (args : List AV) (H : Heap) : AV → Option (AV × Heap)
  | .func g caps => xEB (args ++ caps) H (xBP R g (args ++ caps) H)
  | _ => none
theorem xGz (args : List AV) (g : Nat) (caps : List AV) : xPF R args H (.func g caps) = xEB (args ++ caps) H (xBP R g (args ++ caps) H) := rfl
theorem xRn (f : Arg) (args : List Arg) : xBe R F H (.fcall f args) = xPF R (args.map (opv F)) H (opv F f) := by
  simp only [xBe,xAS,xEB,xPF]
  cases opv F f with
  | func g caps =>
    simp only
    cases xBP R g (args.map (opv F) ++ caps) H with
    | none => rfl
    | some r => obtain ⟨r,H'⟩ := r; simp only; split <;> rfl
  | _ => rfl
theorem xZd (v : AV) : xBe R F H (.box (.c v)) = if v.cells.all AV.isCell = true then some (.any,H) else none := by
  simp only [xBe,xAS]
  split <;> rfl
def xEt (H : Heap) : Option (AV × Heap) → Option (AV × Heap)
  | some (v,_) => some (v,H)
  | none => none
theorem xOl (v : AV) (H' : Heap) : xEt H (some (v,H')) = some (v,H) := rfl
theorem xOm : xEt H none = none := rfl
theorem xRo {c : Prop} [Decidable c] (x y : Option (AV × Heap)) : xEt H (if c then x else y) = if c then xEt H x else xEt H y := by split <;> rfl
theorem xCJ (op : AOp) (h : xAS R F H op = (xAc R F H op).map (·.1)) : xBe R F H op = xEt H (xAc R F H op) := by
  simp only [xBe,h,xEt]
  cases xAc R F H op <;> rfl
theorem xZe (x : Arg) : xBe R F H (.mov x) = xEt H (xAc R F H (.mov x)) := xCJ _ rfl
theorem xVr (c a b : Arg) : xBe R F H (.pick c a b) = xEt H (xAc R F H (.pick c a b)) := xCJ _ rfl
theorem xRp (z : List AV) (parts : List (Nat × Nat × Arg)) : xBe R F H (.build z parts) = xEt H (xAc R F H (.build z parts)) := xCJ _ rfl
theorem xOn (z : List AV) (es n : Nat) (parts : List (Nat × Arg)) : xBe R F H (.bslice true z es n parts) = xEt H (xAc R F H (.bslice true z es n parts)) := xCJ _ rfl
theorem xVs (g : Bool) (n : Nat) (p : Arg) : xBe R F H (.load g n p) = xEt H (xAc R F H (.load g n p)) := xCJ _ rfl
theorem xOo (x : Arg) : xBe R F H (.nilchk x) = xEt H (xAc R F H (.nilchk x)) := xCJ _ rfl
theorem xZf (op : BinOp) (x y : Arg) : xBe R F H (.bin op x y) = xEt H (xAc R F H (.bin op x y)) := xCJ _ rfl
theorem xZg (neg : Bool) (x y : Arg) : xBe R F H (.beq neg x y) = xEt H (xAc R F H (.beq neg x y)) := xCJ _ rfl
theorem xRq (neg : Bool) (x : Arg) : xBe R F H (.isnil neg x) = xEt H (xAc R F H (.isnil neg x)) := xCJ _ rfl
theorem yCh (op : UnOp) (x : Arg) : xBe R F H (.un op x) = xEt H (xAc R F H (.un op x)) := xCJ _ rfl
theorem xVt (k : IntKind) (x : Arg) : xBe R F H (.conv k x) = xEt H (xAc R F H (.conv k x)) := xCJ _ rfl
theorem xOp (f : Nat) (caps : List Arg) : xBe R F H (.mkfunc f caps) = xEt H (xAc R F H (.mkfunc f caps)) := xCJ _ rfl
theorem xKF (z : List AV) (bytes : Nat) (l c : Arg) : xBe R F H (.mkslice true z bytes l c) = xEt H (xAc R F H (.mkslice true z bytes l c)) := xCJ _ rfl
theorem xRr (es : Nat) (x : Arg) (lo hi mx : Option Arg) : xBe R F H (.slice es x lo hi mx) = xEt H (xAc R F H (.slice es x lo hi mx)) := xCJ _ rfl
theorem xRs (o : Nat) (x : Arg) : xBe R F H (.faddr o x) = xEt H (xAc R F H (.faddr o x)) := xCJ _ rfl
theorem xRt (g : Bool) (off n : Nat) (x : Arg) : xBe R F H (.field g off n x) = xEt H (xAc R F H (.field g off n x)) := xCJ _ rfl
theorem xRu (es : Nat) (x i : Arg) : xBe R F H (.iaddr es x i) = xEt H (xAc R F H (.iaddr es x i)) := xCJ _ rfl
theorem xZh (i : Nat) (x : Arg) : xBe R F H (.ext i x) = xEt H (xAc R F H (.ext i x)) := xCJ _ rfl
theorem xZi (x : Arg) : xBe R F H (.len x) = xEt H (xAc R F H (.len x)) := xCJ _ rfl
theorem xZj (x : Arg) : xBe R F H (.cap x) = xEt H (xAc R F H (.cap x)) := xCJ _ rfl
theorem xZk (neg : Bool) (n : Nat) (x y : Arg) : xBe R F H (.aeq neg n x y) = xEt H (xAc R F H (.aeq neg n x y)) := xCJ _ rfl
theorem xVu (x y : Arg) : xBe R F H (.maxi x y) = xEt H (xAc R F H (.maxi x y)) := xCJ _ rfl
theorem xVv (x y : Arg) : xBe R F H (.mini x y) = xEt H (xAc R F H (.mini x y)) := xCJ _ rfl
def xZ9 (es bytes : Nat) (H : Heap) (x : AV) (o : Option (Nat × List AV)) : Option (AV × Heap) := match x with
  | .sl _ _ _ => xEt H (xXK true es bytes H x o)
  | _ => none
theorem xRv (es bytes : Nat) (z : Bool) (n : Nat) (cs : List AV) (o : Option (Nat × List AV)) : xZ9 es bytes H (.sl z n cs) o = xEt H (xXK true es bytes H (.sl z n cs) o) := rfl
theorem xOq (es bytes : Nat) (x y : Arg) : xBe R F H (.append true es bytes x y) = xZ9 es bytes H (opv F x) (src H es (opv F y)) := by
  simp only [xBe,xAS,xZ9]
  cases h : opv F x with
  | sl z n cs =>
    simp only [xH8,h,xEt]
    cases xXK true es bytes H (.sl z n cs) (src H es (opv F y)) <;> rfl
  | _ => rfl
def xSO (H : Heap) : Option AV → Option (AV × Heap)
  | some v => some (v,H)
  | none => none
theorem xKG (v : AV) : xSO H (some v) = some (v,H) := rfl
def xOr (rs : List ARes) : Option (AExit × St) → Option (AV × Heap)
  | some (.normal,s) => xSO s.H (xBZ rs s)
  | some (.ret,s) => xSO s.H (xBZ rs s)
  | _ => none
theorem xGA (rs : List ARes) (F : List AV) (H : Heap) : xOr rs (some (.normal,⟨F,H⟩)) = xSO H (xBZ rs ⟨F,H⟩) := rfl
theorem xOs (rs : List ARes) (F : List AV) (H : Heap) : xOr rs (some (.ret,⟨F,H⟩)) = xSO H (xBZ rs ⟨F,H⟩) := rfl
theorem xKH (rs : List ARes) : xOr rs none = none := rfl
theorem xOt (rs : List ARes) {c : Prop} [Decidable c] (x y : Option (AExit × St)) : xOr rs (if c then x else y) = if c then xOr rs x else xOr rs y := by split <;> rfl
def pads : Nat → List AV
  | 0 => []
  | n + 1 => .tup [] :: pads n
theorem xVw : ∀ n,List.replicate n (AV.tup []) = pads n
  | 0 => rfl
  | n + 1 => by rw [List.replicate_succ,xVw n]; rfl
theorem xBQ (n : Nat) (code : ACode) (rs : List ARes) (args : List AV) : xB6 R ⟨n,code,rs⟩ args H = xOr rs (run R code ⟨args ++ pads (n - args.length),H⟩) := by
  rw [← xVw]
  simp only [xB6,xOr,xMD,xSO]
  cases h : run R code ⟨args ++ List.replicate (n - args.length) (.tup []),H⟩ with
  | none => rfl
  | some r =>
    obtain ⟨e,s⟩ := r
    cases e with
    | exit i => rfl
    | _ => simp only; cases xBZ rs s <;> rfl
def xIf : Option (AV × Heap) → Option AV
  | some (r,H') => frz frzN H' r
  | none => none
theorem xIg (r : AV) (H' : Heap) : xIf (some (r,H')) = frz frzN H' r := rfl
theorem xIh : xIf none = none := rfl
theorem xKI {c : Prop} [Decidable c] (x y : Option (AV × Heap)) : xIf (if c then x else y) = if c then xIf x else xIf y := by split <;> rfl
theorem xAB (fn : AFunc) (args : List AV) : xA5 R fn args = xIf (xB6 R fn args []) := by
  simp only [xA5,xIf]
  cases xB6 R fn args [] <;> rfl
def yAa (g : Bool) : Option (List AV) → Option AV
  | some cs => mkv g cs
  | none => none
theorem xKJ (g : Bool) (cs : List AV) : yAa g (some cs) = mkv g cs := rfl
theorem xVx (t : Nat) : xTK ⟨F,H⟩ (.tmp t) = some (F.getD t .any) := rfl
theorem xRw (t : Nat) (g : Bool) (n : Nat) : xTK ⟨F,H⟩ (.cell t g n) = yAa g (rd H (F.getD t .any) n) := by
  simp only [xTK,yAa]
  cases rd H (F.getD t .any) n <;> rfl
theorem xOu : xBZ [] s = some (.tup []) := rfl
theorem xOv (r : ARes) : xBZ [r] s = xTK s r := rfl
def yDG (s : St) (rs : List ARes) : Option AV → Option (List AV)
  | some v => (xSI s rs).map (v :: ·)
  | none => none
theorem xOw (rs : List ARes) (v : AV) : yDG s rs (some v) = (xSI s rs).map (v :: ·) := rfl
theorem xRx : xSI s [] = some [] := rfl
theorem xOx (r : ARes) (rs : List ARes) : xSI s (r :: rs) = yDG s rs (xTK s r) := by
  simp only [xSI,yDG]
  cases xTK s r <;> rfl
theorem xOy (r r' : ARes) (rs : List ARes) : xBZ (r :: r' :: rs) s = (xSI s (r :: r' :: rs)).map .tup := rfl
def xFs (F : List AV) (l : Nat) : Option (AV × Heap) → Option (AExit × St)
  | some (_,H') => match H'[l]? with
    | some (.loop st pend _ _ _ _) => if st = 1 then none else some ((match pend with | none => .normal | some e => e),⟨F,H'.set l .dead⟩)
    | _ => none
  | none => none
def xVy (R : Rec) (F : List AV) (H : Heap) (ps : List Nat) (asg body : ACode) : AV → Option (AExit × St)
  | .func g caps => xFs F H.length (R.icall (.func g caps) [.yield H.length] (H ++ [.loop 0 none F ps asg body]))
  | _ => none
theorem xOz (f : Arg) (ps : List Nat) (asg body : ACode) (F : List AV) (H : Heap) : run R (.range f ps asg body) ⟨F,H⟩ = xVy R F H ps asg body (opv F f) := by
  simp only [run]
  cases opv F f with
  | func g caps =>
    simp only [xVy,xFs]
    cases R.icall (.func g caps) [.yield H.length] (H ++ [.loop 0 none F ps asg body]) with
    | none => rfl
    | some r =>
      obtain ⟨v,H'⟩ := r
      simp only
      cases H'[H.length]? with
      | none => rfl
      | some b => cases b <;> rfl
  | _ => rfl
theorem xIi (ps : List Nat) (asg body : ACode) (g : Nat) (caps : List AV) : xVy R F H ps asg body (.func g caps) = xFs F H.length (R.icall (.func g caps) [.yield H.length] (H ++ [.loop 0 none F ps asg body])) := rfl
def xFt (l : Nat) (e : AExit) (H : Heap) : Option Blk → Option (AV × Heap)
  | some (.loop 1 _ F ps asg body) => some (match e with
    | .normal => (.bool true,H.set l (.loop 0 none F ps asg body))
    | e => (.bool false,H.set l (.loop 2 (some e) F ps asg body)))
  | _ => none
def xDu (l : Nat) : Option (AExit × St) → Option (AV × Heap)
  | some (e,s) => xFt l e s.H s.H[l]?
  | none => none
def xLK (R : Rec) (l : Nat) (body0 : ACode) (s : St) : Option Blk → Option (AV × Heap)
  | some (.loop 0 pend F ps asg body) => xDu l (run R body0 ⟨s.F,s.H.set l (.loop 1 pend F ps asg body)⟩)
  | _ => none
def xXL (R : Rec) (l : Nat) (body0 : ACode) : Option (AExit × St) → Option (AV × Heap)
  | some (.normal,s) => xLK R l body0 s s.H[l]?
  | _ => none
theorem xEi (l : Nat) (body0 : ACode) (F : List AV) (H : Heap) : xXL R l body0 (some (.normal,⟨F,H⟩)) = xLK R l body0 ⟨F,H⟩ H[l]? := rfl
theorem xFu (l : Nat) (body0 : ACode) (F : List AV) (H : Heap) (pend : Option AExit) (F1 : List AV) (ps : List Nat) (asg body : ACode) : xLK R l body0 ⟨F,H⟩ (some (.loop 0 pend F1 ps asg body)) = xDu l (run R body0 ⟨F,H.set l (.loop 1 pend F1 ps asg body)⟩) := rfl
theorem xEC (l : Nat) (e : AExit) (F : List AV) (H : Heap) : xDu l (some (e,⟨F,H⟩)) = xFt l e H H[l]? := rfl
theorem xFv (l : Nat) {c : Prop} [Decidable c] (x y : Option (AExit × St)) : xDu l (if c then x else y) = if c then xDu l x else xDu l y := by split <;> rfl
theorem xEj (l : Nat) (H : Heap) (pend : Option AExit) (F : List AV) (ps : List Nat) (asg body : ACode) : xFt l .normal H (some (.loop 1 pend F ps asg body)) = some (.bool true,H.set l (.loop 0 none F ps asg body)) := rfl
theorem xFw (l i : Nat) (H : Heap) (pend : Option AExit) (F : List AV) (ps : List Nat) (asg body : ACode) : xFt l (.exit i) H (some (.loop 1 pend F ps asg body)) = some (.bool false,H.set l (.loop 2 (some (.exit i)) F ps asg body)) := rfl
theorem xGB (l : Nat) (H : Heap) (pend : Option AExit) (F : List AV) (ps : List Nat) (asg body : ACode) : xFt l .ret H (some (.loop 1 pend F ps asg body)) = some (.bool false,H.set l (.loop 2 (some .ret) F ps asg body)) := rfl
def xG0 (F : List AV) (l : Nat) (H : Heap) : Option Blk → Option (AExit × St)
  | some (.loop st pend _ _ _ _) => if st = 1 then none else some ((match pend with | none => .normal | some e => e),⟨F,H.set l .dead⟩)
  | _ => none
theorem xFx (l : Nat) (v : AV) (H : Heap) : xFs F l (some (v,H)) = xG0 F l H H[l]? := by
  simp only [xFs,xG0]
theorem xKK (l : Nat) (H : Heap) (F1 : List AV) (ps : List Nat) (asg body : ACode) : xG0 F l H (some (.loop 0 none F1 ps asg body)) = some (.normal,⟨F,H.set l .dead⟩) := rfl
theorem xKL (l : Nat) (H : Heap) (e : AExit) (F1 : List AV) (ps : List Nat) (asg body : ACode) : xG0 F l H (some (.loop 2 (some e) F1 ps asg body)) = some (e,⟨F,H.set l .dead⟩) := rfl
end
section
variable {R : Rec} {F : List AV} {H : Heap} {s : St}
def xVz : Option (AV × Heap) → Option (AV × List Blk)
  | some (r,H') => (xDf H' r).map fun (v,B) => (v,B.map (·.2))
  | none => none
theorem xBJ (f : Nat) (args : List AV) : xBs R f args = xVz (R.icall (.func f []) args []) := by
  unfold xBs xVz
  cases R.icall (.func f []) args [] <;> rfl
theorem xIj (r : AV) (H' : Heap) : xVz (some (r,H')) = (xDf H' r).map fun (v,B) => (v,B.map (·.2)) := rfl
def ocK (H : Heap) (ids : List Nat) : Option (AV × List Blk) → Option (AV × Heap)
  | some (v,B) => some (xAF H.length v,fzIds H ids ++ B)
  | none => none
def xVA (R : Rec) (f : Nat) (H : Heap) (ids : List Nat) : Option (List AV) → Option (AV × Heap)
  | some args' => ocK H ids (xBs R f args')
  | none => none
theorem xRy (f : Nat) (args : List Arg) : xAc R F H (.ocall f args) = xVA R f H ((args.map (opv F)).flatMap (bor frzN H)) ((args.map (opv F)).mapM (frz frzN H)) := by
  simp only [xAc,xVA]
  cases (args.map (opv F)).mapM (frz frzN H) with
  | none => rfl
  | some args' =>
    simp only [ocK]
    cases xBs R f args' <;> rfl
theorem xIk (f : Nat) (ids : List Nat) (args' : List AV) : xVA R f H ids (some args') = ocK H ids (xBs R f args') := rfl
theorem xRz (ids : List Nat) (v : AV) (B : List Blk) : ocK H ids (some (v,B)) = some (xAF H.length v,fzIds H ids ++ B) := rfl
def t1B (z : Bool) (id off n es : Nat) (B : List (Nat × Blk)) : Option Blk → Option (AV × List (Nat × Blk))
  | some (.cells false z' cs) => if cs.all xAC = true then some (.own z B.length off n es,B ++ [(id,.cells false z' cs)]) else none
  | _ => none
def t1I (z : Bool) (id off n es : Nat) (B : List (Nat × Blk)) (b : Option Blk) : Option Nat → Option (AV × List (Nat × Blk))
  | some k => some (.own z k off n es,B)
  | none => t1B z id off n es B b
theorem xOA (H : Heap) (z : Bool) (id off n es : Nat) (B : List (Nat × Blk)) : xEw H (.own z id off n es) B = t1I z id off n es B H[id]? (B.findIdx? (fun p => p.1 == id)) := by
  simp only [xEw,t1I]
  cases B.findIdx? (fun p => p.1 == id) with
  | some k => rfl
  | none =>
    simp only [t1B]
    cases H[id]? with
    | none => rfl
    | some b => cases b with
      | cells fz z' cs => cases fz <;> rfl
      | _ => rfl
theorem xVB (z : Bool) (id off n es : Nat) (B : List (Nat × Blk)) (b : Option Blk) (k : Nat) : t1I z id off n es B b (some k) = some (.own z k off n es,B) := rfl
theorem xVC (z : Bool) (id off n es : Nat) (B : List (Nat × Blk)) (z' : Bool) (cs : List AV) : t1I z id off n es B (some (.cells false z' cs)) none = if cs.all xAC = true then some (.own z B.length off n es,B ++ [(id,.cells false z' cs)]) else none := rfl
theorem xOB (H : Heap) (k : IntKind) (n : Int) (B : List (Nat × Blk)) : xEw H (.int k n) B = some (.int k n,B) := rfl
theorem xKM (H : Heap) (b : Bool) (B : List (Nat × Blk)) : xEw H (.bool b) B = some (.bool b,B) := rfl
theorem xRA (H : Heap) (z : Bool) (n : Nat) (cs : List AV) (B : List (Nat × Blk)) : xEw H (.sl z n cs) B = some (.sl z n cs,B) := rfl
theorem xOC (H : Heap) (b : ByteArray) (B : List (Nat × Blk)) : xEw H (.str b) B = some (.str b,B) := rfl
def tkL (H : Heap) (vs : List AV) : Option (AV × List (Nat × Blk)) → Option (List AV × List (Nat × Blk))
  | some (v',B') => (xHx H vs B').map fun (vs',B2) => (v' :: vs',B2)
  | none => none
theorem xOD (H : Heap) (B : List (Nat × Blk)) : xHx H [] B = some ([],B) := rfl
theorem xKN (H : Heap) (v : AV) (vs : List AV) (B : List (Nat × Blk)) : xHx H (v :: vs) B = tkL H vs (xEw H v B) := by
  simp only [xHx,tkL]
  cases xEw H v B <;> rfl
theorem xRB (H : Heap) (vs : List AV) (v' : AV) (B' : List (Nat × Blk)) : tkL H vs (some (v',B')) = (xHx H vs B').map fun (vs',B2) => (v' :: vs',B2) := rfl
theorem xOE (H : Heap) (cs : List AV) (B : List (Nat × Blk)) : xFb H (.agg cs) B = if cs.all AV.isCell = true then (xHx H cs B).map fun (cs',B') => (.agg cs',B') else none := rfl
theorem xOF (H : Heap) (z : Bool) (id off n es : Nat) (B : List (Nat × Blk)) : xFb H (.own z id off n es) B = xEw H (.own z id off n es) B := rfl
theorem xOG (H : Heap) (k : IntKind) (n : Int) (B : List (Nat × Blk)) : xFb H (.int k n) B = some (.int k n,B) := rfl
theorem xKO (H : Heap) (b : Bool) (B : List (Nat × Blk)) : xFb H (.bool b) B = some (.bool b,B) := rfl
theorem xRC (H : Heap) (z : Bool) (n : Nat) (cs : List AV) (B : List (Nat × Blk)) : xFb H (.sl z n cs) B = some (.sl z n cs,B) := rfl
def yDH (H : Heap) (vs : List AV) : Option (AV × List (Nat × Blk)) → Option (List AV × List (Nat × Blk))
  | some (v',B') => (xEe H vs B').map fun (vs',B2) => (v' :: vs',B2)
  | none => none
theorem xKP (H : Heap) (B : List (Nat × Blk)) : xEe H [] B = some ([],B) := rfl
theorem xIl (H : Heap) (v : AV) (vs : List AV) (B : List (Nat × Blk)) : xEe H (v :: vs) B = yDH H vs (xFb H v B) := by
  simp only [xEe,yDH]
  cases xFb H v B <;> rfl
theorem xOH (H : Heap) (vs : List AV) (v' : AV) (B' : List (Nat × Blk)) : yDH H vs (some (v',B')) = (xEe H vs B').map fun (vs',B2) => (v' :: vs',B2) := rfl
theorem xIm (H : Heap) (vs : List AV) : xDf H (.tup vs) = (xEe H vs []).map fun (vs',B) => (.tup vs',B) := rfl
theorem xIn (H : Heap) (cs : List AV) : xDf H (.agg cs) = xFb H (.agg cs) [] := rfl
theorem xIo (H : Heap) (z : Bool) (id off n es : Nat) : xDf H (.own z id off n es) = xEw H (.own z id off n es) [] := rfl
theorem xKQ (H : Heap) (z : Bool) (n : Nat) (cs : List AV) : xDf H (.sl z n cs) = some (.sl z n cs,[]) := rfl
theorem xOI {α : Type} (p : α → Bool) : ([] : List α).findIdx? p = none := rfl
theorem xKR {α : Type} (p : α → Bool) (a : α) (l : List α) : (a :: l).findIdx? p = if p a = true then some 0 else (l.findIdx? p).map (· + 1) := by
  rw [List.findIdx?_cons]
def xVD (R : Rec) (als : List (Nat × Nat)) (ls : List (Nat × Nat × Nat × Nat)) (m : Nat) (ops : List AOper) : Option (St × List Pr) → Option (AExit × St)
  | some (s,pl) => xEh ls (xAV R (ops.drop m) (xBx als pl s))
  | none => none
theorem xOJ (als : List (Nat × Nat)) (ls : List (Nat × Nat × Nat × Nat)) (m : Nat) (ops : List AOper) : run R (.drawp als ls m ops) s = xVD R als ls m ops (xA6 R (ops.take m) s) := by
  simp only [run,xVD]
  cases xA6 R (ops.take m) s with
  | none => rfl
  | some r =>
    obtain ⟨s1,pl⟩ := r
    simp only [xEh]
    cases xAV R (ops.drop m) (xBx als pl s1) <;> rfl
theorem xIp (als : List (Nat × Nat)) (ls : List (Nat × Nat × Nat × Nat)) (m : Nat) (ops : List AOper) (s : St) (pl : List Pr) : xVD R als ls m ops (some (s,pl)) = xEh ls (xAV R (ops.drop m) (xBx als pl s)) := rfl
theorem xKS (pl : List Pr) (s : St) : xBx [] pl s = adoptL pl s := rfl
def alK (als : List (Nat × Nat)) : St → St
  | ⟨F,H⟩ => ⟨xB2 als F,H⟩
theorem xIq (p : Nat × Nat) (r : List (Nat × Nat)) (pl : List Pr) (s : St) : xBx (p :: r) pl s = alK (p :: r) (adoptL pl s) := rfl
theorem xZl (als : List (Nat × Nat)) (F : List AV) (H : Heap) : alK als ⟨F,H⟩ = ⟨xB2 als F,H⟩ := rfl
theorem xKT (F : List AV) : xB2 [] F = F := rfl
theorem xIr (d q : Nat) (r : List (Nat × Nat)) (F : List AV) : xB2 ((d,q) :: r) F = xB2 r (F.set d (xXb (q / 4096) (F.getD (q % 4096) .any))) := rfl
theorem xAr (v : AV) : xXb 0 v = v := rfl
theorem xAs (vs : List AV) : xXb 1 (.tup vs) = vs.getD 0 .any := rfl
theorem xAt (vs : List AV) : xXb 2 (.tup vs) = vs.getD 1 .any := rfl
theorem xAu (vs : List AV) : xXb 3 (.tup vs) = vs.getD 2 .any := rfl
theorem xAv (z : Bool) (i o n e : Nat) : xCr (.own z i o n e) = .any := rfl
theorem xAw (i o : Nat) : xCr (.ptr i o) = .any := rfl
theorem xAJ (z : Bool) (n : Nat) (cs : List AV) : xCr (.sl z n cs) = .any := rfl
theorem xAx (cs : List AV) : xCr (.agg cs) = .any := rfl
theorem xAy (k : IntKind) (n : Int) : xCr (.int k n) = .any := rfl
theorem xAj (b : Bool) : xCr (.bool b) = .any := rfl
theorem xAz (vs : List AV) : xCr (.tup vs) = .tup (vs.map xEg) := rfl
theorem xAk (z : Bool) (i o n e : Nat) : xEg (.own z i o n e) = .any := rfl
theorem xAl (i o : Nat) : xEg (.ptr i o) = .any := rfl
theorem xAA (z : Bool) (n : Nat) (cs : List AV) : xEg (.sl z n cs) = .any := rfl
theorem xAm (cs : List AV) : xEg (.agg cs) = .any := rfl
theorem xAn (k : IntKind) (n : Int) : xEg (.int k n) = .int k n := rfl
theorem xAi (b : Bool) : xEg (.bool b) = .bool b := rfl
def xVE (e : Pr) : Option (St × List Pr) → Option (St × List Pr)
  | some (s,l) => some (s,e :: l)
  | none => none
theorem xKU (e : Pr) (s : St) (l : List Pr) : xVE e (some (s,l)) = some (s,e :: l) := rfl
def xVF (R : Rec) (rest : List AOper) (s : St) : Option Nat → Option (AV × List Blk) → Option (St × List Pr)
  | some t,some (v,B) => xVE (some (t,v,B)) (xA6 R rest ⟨s.F.set t (xCr v),s.H⟩)
  | _,_ => none
def xVG (R : Rec) (rest : List AOper) : Option St → Option (St × List Pr)
  | some s => xVE none (xA6 R rest s)
  | none => none
theorem xIs : xA6 R [] s = some (s,[]) := rfl
theorem xGC (o : AOper) (rest : List AOper) : xA6 R (o :: rest) s = if xA1 o.op = true then xVF R rest s o.dst (xDg R s.F o.op) else xVG R rest (xA8 R o s) := by
  simp only [xA6]
  split
  · cases o.dst with
    | none => rfl
    | some t => cases xDg R s.F o.op with
      | none => rfl
      | some r =>
        obtain ⟨v,B⟩ := r
        simp only [xVF]
        cases xA6 R rest ⟨s.F.set t (xCr v),s.H⟩ <;> rfl
  · cases xA8 R o s with
    | none => rfl
    | some s1 =>
      simp only [xVG]
      cases xA6 R rest s1 <;> rfl
theorem xIt (rest : List AOper) (t : Nat) (v : AV) (B : List Blk) : xVF R rest s (some t) (some (v,B)) = xVE (some (t,v,B)) (xA6 R rest ⟨s.F.set t (xCr v),s.H⟩) := rfl
theorem xIu (rest : List AOper) (s : St) : xVG R rest (some s) = xVE none (xA6 R rest s) := rfl
def yAb : Option (AV × Heap) → Option (AV × List Blk)
  | some (v,B) => if xA2 v = true ∧ xEf B = true then some (v,B) else none
  | none => none
theorem xRD (op : AOp) : xDg R F op = if op.args.all (fun x => xAG (opv F x)) = true then yAb (xAc R F [] op) else none := by
  unfold xDg yAb
  split
  · cases xAc R F [] op <;> rfl
  · rfl
theorem xKV (v : AV) (B : Heap) : yAb (some (v,B)) = if xA2 v = true ∧ xEf B = true then some (v,B) else none := rfl
theorem xGD (f : Nat) (as : List Arg) : xA1 (.ocall f as) = true := rfl
theorem xKW (x : Arg) : xA1 (.box x) = true := rfl
theorem xIv (z : List AV) (b : Nat) (x y : Arg) : xA1 (.mkslice false z b x y) = true := rfl
theorem xIw (z : List AV) (b : Nat) (x y : Arg) : xA1 (.mkslice true z b x y) = false := rfl
theorem xIx (z : List AV) (es n : Nat) (ps : List (Nat × Arg)) : xA1 (.bslice false z es n ps) = true := rfl
theorem xIy (z : List AV) (es n : Nat) (ps : List (Nat × Arg)) : xA1 (.bslice true z es n ps) = false := rfl
theorem xIz (es b : Nat) (x y : Arg) : xA1 (.append false es b x y) = true := rfl
theorem xIA (es b : Nat) (x y : Arg) : xA1 (.append true es b x y) = false := rfl
theorem xIB (z : List AV) (b : Nat) (x y : Arg) : xA1 (.appendz z b x y) = true := rfl
theorem xKX (x : Arg) : xA1 (.mov x) = false := rfl
theorem xIC (x y z : Arg) : xA1 (.pick x y z) = false := rfl
theorem xGE (z : List AV) (ps : List (Nat × Nat × Arg)) : xA1 (.build z ps) = false := rfl
theorem xID (g : Bool) (n : Nat) (x : Arg) : xA1 (.load g n x) = false := rfl
theorem xFy (x : Arg) : xA1 (.nilchk x) = false := rfl
theorem xKY (op : BinOp) (x y : Arg) : xA1 (.bin op x y) = false := rfl
theorem xKZ (g : Bool) (x y : Arg) : xA1 (.beq g x y) = false := rfl
theorem xGF (g : Bool) (x : Arg) : xA1 (.isnil g x) = false := rfl
theorem xOK (op : UnOp) (x : Arg) : xA1 (.un op x) = false := rfl
theorem xIE (k : IntKind) (x : Arg) : xA1 (.conv k x) = false := rfl
theorem xFz (f : Nat) (as : List Arg) : xA1 (.mkfunc f as) = false := rfl
theorem xGG (es : Nat) (x : Arg) (a b c : Option Arg) : xA1 (.slice es x a b c) = false := rfl
theorem xGH (o : Nat) (x : Arg) : xA1 (.faddr o x) = false := rfl
theorem xGI (g : Bool) (o n : Nat) (x : Arg) : xA1 (.field g o n x) = false := rfl
theorem xGJ (es : Nat) (x i : Arg) : xA1 (.iaddr es x i) = false := rfl
theorem xK0 (i : Nat) (x : Arg) : xA1 (.ext i x) = false := rfl
theorem xK1 (x : Arg) : xA1 (.len x) = false := rfl
theorem xK2 (x : Arg) : xA1 (.cap x) = false := rfl
theorem xK3 (g : Bool) (n : Nat) (x y : Arg) : xA1 (.aeq g n x y) = false := rfl
theorem xIF (f : Nat) (as : List Arg) : xA1 (.call f as) = false := rfl
theorem xGK (f : Arg) (as : List Arg) : xA1 (.fcall f as) = false := rfl
theorem xIG (x y : Arg) : xA1 (.maxi x y) = false := rfl
theorem xIH (x y : Arg) : xA1 (.mini x y) = false := rfl
theorem xII : xEf [] = true := rfl
theorem xGL (z : Bool) (cs : List AV) (B : List Blk) : xEf (.cells false z cs :: B) = (cs.all xAC && xEf B) := rfl
theorem xLL {α : Type} {f : α → AV} (h : ∀ a,xAC (f a) = true) (l : List α) : (l.map f).all xAC = true := by
  simp [List.all_eq_true,h]
end
section
variable {R : Rec} {F : List AV} {H : Heap}
end
end Go.Abs
