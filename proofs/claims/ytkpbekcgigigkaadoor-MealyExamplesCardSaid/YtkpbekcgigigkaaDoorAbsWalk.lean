/- The interpreter's equations in the form that simp walks by: one equation for each construct, told apart by what has been computed already. -/
import Derived.Test.YtkpbekcgigigkaaDoorAbsLim
namespace Go.Abs
set_option linter.unusedVariables false
set_option linter.unusedSimpArgs false

theorem clearA_get : ∀ (scr : List Nat) (F : List AV) (i : Nat), (clearA scr F)[i]? = if i ∈ scr then (F[i]?).map (fun _ => AV.any) else F[i]?
  | [], F, i => by simp [clearA]
  | j :: scr, F, i => by
    have := clearA_get scr (F.set j .any) i
    simp only [clearA, List.foldl_cons] at this ⊢
    rw [this]
    by_cases h : i = j
    · subst h
      simp only [List.getElem?_set_self', List.mem_cons, true_or, if_true]
      cases F[i]? <;> simp
    · have h' : ¬ j = i := fun e => h e.symm
      simp [List.getElem?_set, h, h']

theorem clearA_idem (scr : List Nat) (F : List AV) : clearA scr (clearA scr F) = clearA scr F := by
  apply List.ext_getElem?
  intro i
  rw [clearA_get, clearA_get]
  split
  · cases F[i]? <;> rfl
  · rfl

section
variable {prog : Nat → Option AFunc}

theorem lim_le (prog : Nat → Option AFunc) (n : Nat) : Tends (fix prog n) (fun _ => lim prog) :=
  ⟨fun f a v h => .all fun _ => evOf_of ((fix_tends prog n).pcall f a v h), fun f a H v h => .all fun _ => evOf_of ((fix_tends prog n).icall f a H v h), fun scr b s v h => .all fun _ => evOf_of ((fix_tends prog n).loop scr b s v h)⟩

theorem Ev.const {p : Prop} (h : Ev fun _ => p) : p := let ⟨n, hn⟩ := h; hn n (Nat.le_refl n)

theorem opt_eq {α : Type} {a b : Option α} (h1 : ∀ v, a = some v → b = some v) (h2 : ∀ v, b = some v → a = some v) : a = b := by
  cases a with
  | some v => exact (h1 v rfl).symm
  | none =>
    cases b with
    | none => rfl
    | some v => exact h2 v rfl

theorem lim_pcall_eq {f : Nat} {fn : AFunc} (hf : prog f = some fn) (args : List AV) : (lim prog).pcall f args = pbodyA (lim prog) fn args := by
  refine opt_eq (fun v h => ?_) (fun v h => lim_pcall hf h)
  obtain ⟨n, hn⟩ := evOf_some (p := fun m => (fix prog m).pcall f args) h
  have h1 : (stepA prog (fix prog n)).pcall f args = some v := hn (n + 1) (by omega)
  have h2 := (tends_stepA (lim_le prog n) prog).pcall f args v h1 |>.const
  simp only [stepA, hf] at h2
  exact h2

theorem lim_icall_eq (f : AV) (args : List AV) (H : Heap) : (lim prog).icall f args H = icallA prog (lim prog) f args H := by
  refine opt_eq (fun v h => ?_) (fun v h => lim_icall h)
  obtain ⟨n, hn⟩ := evOf_some (p := fun m => (fix prog m).icall f args H) h
  have h1 : (stepA prog (fix prog n)).icall f args H = some v := hn (n + 1) (by omega)
  exact (tends_stepA (lim_le prog n) prog).icall f args H v h1 |>.const

theorem lim_loop_eq (scr : List Nat) (b : ACode) (s : St) : (lim prog).loop scr b s = loopA (lim prog) scr b s := by
  refine opt_eq (fun v h => ?_) (fun v h => lim_loop h)
  obtain ⟨n, hn⟩ := evOf_some (p := fun m => (fix prog m).loop scr b s) h
  have h1 : (stepA prog (fix prog n)).loop scr b s = some v := hn (n + 1) (by omega)
  exact (tends_stepA (lim_le prog n) prog).loop scr b s v h1 |>.const

theorem lim_fcall_eq {f : Nat} {fn : AFunc} (hf : prog f = some fn) (caps args : List AV) (H : Heap) : (lim prog).icall (.func f caps) args H = bodyA (lim prog) fn (args ++ caps) H := by
  rw [lim_icall_eq]
  simp only [icallA, hf]

theorem lim_round_eq (l : Nat) (args : List AV) (H : Heap) : (lim prog).icall (.yield l) args H = roundA (lim prog) l args H := by
  rw [lim_icall_eq]
  rfl

theorem lim_loop_clear (scr : List Nat) (b : ACode) (F : List AV) (H : Heap) : (lim prog).loop scr b ⟨F, H⟩ = (lim prog).loop scr b ⟨clearA scr F, H⟩ := by
  rw [lim_loop_eq, lim_loop_eq]
  unfold loopA
  simp only [clearA_idem]

/-- one round of a loop -/
def loopK (R : Rec) (scr : List Nat) (b : ACode) : Option (AExit × St) → Option (AExit × St)
  | some (.normal, s) => R.loop scr b ⟨clearA scr s.F, s.H⟩
  | some (e, s) => some (e, ⟨clearA scr s.F, s.H⟩)
  | none => none

/-- a loop whose state is clear already -/
theorem lim_loop_step (scr : List Nat) (b : ACode) (F : List AV) (H : Heap) (h : clearA scr F = F) : (lim prog).loop scr b ⟨F, H⟩ = loopK (lim prog) scr b (run (lim prog) b ⟨F, H⟩) := by
  rw [lim_loop_eq]
  unfold loopA loopK
  simp only [h]
  split
  · rename_i s' hs
    rw [hs]
    exact lim_loop_clear scr b s'.F s'.H
  · rename_i e s' hne hs
    rw [hs]
    cases e with
    | normal => exact (hne rfl).elim
    | exit i => rfl
    | ret => rfl
  · rename_i hs
    rw [hs]

theorem run_loop (scr : List Nat) (b : ACode) (F : List AV) (H : Heap) : run (lim prog) (.loop scr b) ⟨F, H⟩ = (lim prog).loop scr b ⟨clearA scr F, H⟩ := lim_loop_clear scr b F H
end

section
variable {R : Rec} {F : List AV} {H : Heap} {s : St}

def seqK (R : Rec) (b : ACode) : Option (AExit × St) → Option (AExit × St)
  | some (.normal, s) => run R b s
  | r => r
theorem run_seq (a b : ACode) : run R (.seq a b) s = seqK R b (run R a s) := by
  simp only [run, seqK]
  split <;> simp_all
theorem seqK_normal (b : ACode) (s : St) : seqK R b (some (.normal, s)) = run R b s := rfl
theorem seqK_exit (b : ACode) (i : Nat) (s : St) : seqK R b (some (.exit i, s)) = some (.exit i, s) := rfl
theorem seqK_ret (b : ACode) (s : St) : seqK R b (some (.ret, s)) = some (.ret, s) := rfl
theorem seqK_none (b : ACode) : seqK R b none = none := rfl
theorem seqK_ite (b : ACode) {c : Prop} [Decidable c] (x y : Option (AExit × St)) : seqK R b (if c then x else y) = if c then seqK R b x else seqK R b y := by split <;> rfl

def condK (R : Rec) (a b : ACode) (s : St) : AV → Option (AExit × St)
  | .bool t => if t = true then run R a s else run R b s
  | _ => none
theorem run_cond (c : Arg) (a b : ACode) (F : List AV) (H : Heap) : run R (.cond c a b) ⟨F, H⟩ = condK R a b ⟨F, H⟩ (opv F c) := by
  simp only [run, condK]
  split <;> simp_all
theorem condK_bool (a b : ACode) (t : Bool) : condK R a b s (.bool t) = if t = true then run R a s else run R b s := rfl

def blockK (id : Nat) : Option (AExit × St) → Option (AExit × St)
  | some (.exit i, s) => if i = id then some (.normal, s) else some (.exit i, s)
  | r => r
theorem run_block (id : Nat) (b : ACode) : run R (.block id b) s = blockK id (run R b s) := by
  simp only [run, blockK]
  split <;> simp_all
theorem blockK_exit (id i : Nat) (s : St) : blockK id (some (.exit i, s)) = if i = id then some (.normal, s) else some (.exit i, s) := rfl
theorem blockK_normal (id : Nat) (s : St) : blockK id (some (.normal, s)) = some (.normal, s) := rfl
theorem blockK_ret (id : Nat) (s : St) : blockK id (some (.ret, s)) = some (.ret, s) := rfl
theorem blockK_none (id : Nat) : blockK id none = none := rfl
theorem blockK_ite (id : Nat) {c : Prop} [Decidable c] (x y : Option (AExit × St)) : blockK id (if c then x else y) = if c then blockK id x else blockK id y := by split <;> rfl

theorem loopK_normal (scr : List Nat) (b : ACode) (F : List AV) (H : Heap) : loopK R scr b (some (.normal, ⟨F, H⟩)) = R.loop scr b ⟨clearA scr F, H⟩ := rfl
theorem loopK_exit (scr : List Nat) (b : ACode) (i : Nat) (F : List AV) (H : Heap) : loopK R scr b (some (.exit i, ⟨F, H⟩)) = some (.exit i, ⟨clearA scr F, H⟩) := rfl
theorem loopK_ret (scr : List Nat) (b : ACode) (F : List AV) (H : Heap) : loopK R scr b (some (.ret, ⟨F, H⟩)) = some (.ret, ⟨clearA scr F, H⟩) := rfl
theorem loopK_ite (scr : List Nat) (b : ACode) {c : Prop} [Decidable c] (x y : Option (AExit × St)) : loopK R scr b (if c then x else y) = if c then loopK R scr b x else loopK R scr b y := by split <;> rfl

def regK : Option St → Option (AExit × St)
  | some s => some (.normal, s)
  | none => none
theorem regK_some (s : St) : regK (some s) = some (.normal, s) := rfl
theorem regK_none : regK none = none := rfl
theorem regK_ite {c : Prop} [Decidable c] (x y : Option St) : regK (if c then x else y) = if c then regK x else regK y := by split <;> rfl
theorem run_region (ops : List AOper) : run R (.region ops) s = regK (runOps R ops s) := by
  simp only [run, regK]
  cases runOps R ops s <;> rfl
theorem run_skip : run R .skip s = some (.normal, s) := rfl
theorem run_label : run R .label s = some (.normal, s) := rfl
theorem run_exit (i : Nat) : run R (.exit i) s = some (.exit i, s) := rfl
theorem run_ret : run R .ret s = some (.ret, s) := rfl
theorem run_scope (b : ACode) : run R (.scope b) s = run R b s := rfl
theorem run_stuck : run R .stuck s = none := rfl

def opsK (R : Rec) (rest : List AOper) : Option St → Option St
  | some s => runOps R rest s
  | none => none
theorem runOps_nil : runOps R [] s = some s := rfl
theorem runOps_cons (o : AOper) (rest : List AOper) : runOps R (o :: rest) s = opsK R rest (execOperA R o s) := by
  simp only [runOps, opsK]
  cases execOperA R o s <;> rfl
theorem opsK_some (rest : List AOper) (s : St) : opsK R rest (some s) = runOps R rest s := rfl
theorem opsK_none (rest : List AOper) : opsK R rest none = none := rfl
theorem opsK_ite (rest : List AOper) {c : Prop} [Decidable c] (x y : Option St) : opsK R rest (if c then x else y) = if c then opsK R rest x else opsK R rest y := by split <;> rfl

def putK (F : List AV) (d : Option Nat) : Option (AV × Heap) → Option St
  | some (v, H) => some ⟨putA F d v, H⟩
  | none => none
theorem putK_to (d : Nat) (v : AV) : putK F (some d) (some (v, H)) = some ⟨F.set d v, H⟩ := rfl
theorem putK_no (v : AV) : putK F none (some (v, H)) = some ⟨F, H⟩ := rfl
theorem putK_none (d : Option Nat) : putK F d none = none := rfl
theorem putK_ite (d : Option Nat) {c : Prop} [Decidable c] (x y : Option (AV × Heap)) : putK F d (if c then x else y) = if c then putK F d x else putK F d y := by split <;> rfl
theorem oper_none (d : Option Nat) (op : AOp) : execOperA R ⟨d, op, none⟩ ⟨F, H⟩ = putK F d (execOpA R F H op) := by
  simp only [execOperA, wantA, putK]
  cases execOpA R F H op <;> rfl
def guardK (R : Rec) (d : Option Nat) (op : AOp) (w : Bool) (F : List AV) (H : Heap) : AV → Option St
  | .bool b => if b = w then putK F d (execOpA R F H op) else some ⟨putA F d (.tup []), H⟩
  | .any => none
  | _ => some ⟨putA F d (.tup []), H⟩
theorem oper_guard (d : Option Nat) (op : AOp) (t : Nat) (w : Bool) : execOperA R ⟨d, op, some (t, w)⟩ ⟨F, H⟩ = guardK R d op w F H (F.getD t .any) := by
  simp only [execOperA, wantA, guardK]
  cases F.getD t .any with
  | bool b =>
    cases b <;> cases w <;> simp [putK] <;> cases execOpA R F H op <;> rfl
  | _ => rfl
theorem guardK_bool (d : Option Nat) (op : AOp) (w b : Bool) : guardK R d op w F H (.bool b) = if b = w then putK F d (execOpA R F H op) else some ⟨putA F d (.tup []), H⟩ := rfl
theorem guardK_tup (d : Option Nat) (op : AOp) (w : Bool) (vs : List AV) : guardK R d op w F H (.tup vs) = some ⟨putA F d (.tup []), H⟩ := rfl
theorem putA_to (d : Nat) (v : AV) : putA F (some d) v = F.set d v := rfl
theorem putA_no (v : AV) : putA F none v = F := rfl

/-! regions that draw their order -/
def drawK (R : Rec) (m : Nat) (ops : List AOper) : Option St → Option (AExit × St)
  | some s => regK (runOps R (ops.drop m) (adopt (ops.take m) s))
  | none => none
theorem run_draw (m : Nat) (ops : List AOper) : run R (.draw m ops) s = drawK R m ops (runFree R (ops.take m) s) := by
  simp only [run, drawK]
  cases runFree R (ops.take m) s with
  | none => rfl
  | some s1 =>
    simp only [regK]
    cases runOps R (ops.drop m) (adopt (ops.take m) s1) <;> rfl
theorem drawK_some (m : Nat) (ops : List AOper) (s : St) : drawK R m ops (some s) = regK (runOps R (ops.drop m) (adopt (ops.take m) s)) := rfl
theorem drawK_none (m : Nat) (ops : List AOper) : drawK R m ops none = none := rfl
theorem drawK_ite (m : Nat) (ops : List AOper) {c : Prop} [Decidable c] (x y : Option St) : drawK R m ops (if c then x else y) = if c then drawK R m ops x else drawK R m ops y := by split <;> rfl

def apartK (ls : List (Nat × Nat × Nat × Nat)) : Option St → Option (AExit × St)
  | some s => if ls.all (apart s.F) = true then some (.normal, s) else none
  | none => none
def drawlK (R : Rec) (ls : List (Nat × Nat × Nat × Nat)) (m : Nat) (ops : List AOper) : Option St → Option (AExit × St)
  | some s => apartK ls (runOps R (ops.drop m) (adopt (ops.take m) s))
  | none => none
theorem run_drawl (ls : List (Nat × Nat × Nat × Nat)) (m : Nat) (ops : List AOper) : run R (.drawl ls m ops) s = drawlK R ls m ops (runFree R (ops.take m) s) := by
  simp only [run, drawlK]
  cases runFree R (ops.take m) s with
  | none => rfl
  | some s1 =>
    simp only [apartK]
    cases runOps R (ops.drop m) (adopt (ops.take m) s1) <;> rfl
theorem drawlK_some (ls : List (Nat × Nat × Nat × Nat)) (m : Nat) (ops : List AOper) (s : St) : drawlK R ls m ops (some s) = apartK ls (runOps R (ops.drop m) (adopt (ops.take m) s)) := rfl
theorem drawlK_none (ls : List (Nat × Nat × Nat × Nat)) (m : Nat) (ops : List AOper) : drawlK R ls m ops none = none := rfl
theorem drawlK_ite (ls : List (Nat × Nat × Nat × Nat)) (m : Nat) (ops : List AOper) {c : Prop} [Decidable c] (x y : Option St) : drawlK R ls m ops (if c then x else y) = if c then drawlK R ls m ops x else drawlK R ls m ops y := by split <;> rfl
theorem apartK_some (ls : List (Nat × Nat × Nat × Nat)) (s : St) : apartK ls (some s) = if ls.all (apart s.F) = true then some (.normal, s) else none := rfl
theorem apartK_none (ls : List (Nat × Nat × Nat × Nat)) : apartK ls none = none := rfl
theorem apartK_ite (ls : List (Nat × Nat × Nat × Nat)) {c : Prop} [Decidable c] (x y : Option St) : apartK ls (if c then x else y) = if c then apartK ls x else apartK ls y := by split <;> rfl

def freeK (R : Rec) (rest : List AOper) : Option St → Option St
  | some s => runFree R rest s
  | none => none
theorem runFree_nil : runFree R [] s = some s := rfl
theorem runFree_cons (o : AOper) (rest : List AOper) : runFree R (o :: rest) s = freeK R rest (freeOperA R o s) := by
  simp only [runFree, freeK]
  cases freeOperA R o s <;> rfl
theorem freeK_some (rest : List AOper) (s : St) : freeK R rest (some s) = runFree R rest s := rfl
theorem freeK_none (rest : List AOper) : freeK R rest none = none := rfl
theorem freeK_ite (rest : List AOper) {c : Prop} [Decidable c] (x y : Option St) : freeK R rest (if c then x else y) = if c then freeK R rest x else freeK R rest y := by split <;> rfl

def fputK (F : List AV) (d : Option Nat) (H : Heap) : Option (AV × Heap) → Option St
  | some (v, _) => some ⟨putA F d v, H⟩
  | none => none
theorem fputK_to (d : Nat) (v : AV) (H' : Heap) : fputK F (some d) H (some (v, H')) = some ⟨F.set d v, H⟩ := rfl
theorem fputK_no (v : AV) (H' : Heap) : fputK F none H (some (v, H')) = some ⟨F, H⟩ := rfl
theorem fputK_none (d : Option Nat) : fputK F d H none = none := rfl
theorem fputK_ite (d : Option Nat) {c : Prop} [Decidable c] (x y : Option (AV × Heap)) : fputK F d H (if c then x else y) = if c then fputK F d H x else fputK F d H y := by split <;> rfl

/-- what an operation in whatever order comes to -/
def freeEx (R : Rec) (F : List AV) (H : Heap) (op : AOp) : Option (AV × Heap) := (freeOpA R F H op).map fun v => (v, H)
theorem foper_none (d : Option Nat) (op : AOp) : freeOperA R ⟨d, op, none⟩ ⟨F, H⟩ = fputK F d H (freeEx R F H op) := by
  simp only [freeOperA, wantA, fputK, freeEx]
  cases freeOpA R F H op <;> rfl
def fguardK (R : Rec) (d : Option Nat) (op : AOp) (w : Bool) (F : List AV) (H : Heap) : AV → Option St
  | .bool b => if b = w then fputK F d H (freeEx R F H op) else some ⟨putA F d (.tup []), H⟩
  | .any => none
  | _ => some ⟨putA F d (.tup []), H⟩
theorem foper_guard (d : Option Nat) (op : AOp) (t : Nat) (w : Bool) : freeOperA R ⟨d, op, some (t, w)⟩ ⟨F, H⟩ = fguardK R d op w F H (F.getD t .any) := by
  simp only [freeOperA, wantA, fguardK]
  cases F.getD t .any with
  | bool b =>
    cases b <;> cases w <;> simp [fputK, freeEx] <;> cases freeOpA R F H op <;> rfl
  | _ => rfl
theorem fguardK_bool (d : Option Nat) (op : AOp) (w b : Bool) : fguardK R d op w F H (.bool b) = if b = w then fputK F d H (freeEx R F H op) else some ⟨putA F d (.tup []), H⟩ := rfl
theorem fguardK_tup (d : Option Nat) (op : AOp) (w : Bool) (vs : List AV) : fguardK R d op w F H (.tup vs) = some ⟨putA F d (.tup []), H⟩ := rfl

/-! the operations -/
def valK (H : Heap) : Option AV → Option (AV × Heap)
  | some v => some (v, H)
  | none => none
theorem valK_some (v : AV) : valK H (some v) = some (v, H) := rfl
theorem valK_none : valK H none = none := rfl
theorem valK_ite {c : Prop} [Decidable c] (x y : Option AV) : valK H (if c then x else y) = if c then valK H x else valK H y := by split <;> rfl

theorem ex_mov (x : Arg) : execOpA R F H (.mov x) = some (opv F x, H) := rfl
def pickA : AV → AV → AV → Option AV
  | .bool t, a, b => some (if t = true then a else b)
  | _, _, _ => none
theorem pickA_bool (t : Bool) (a b : AV) : pickA (.bool t) a b = some (if t = true then a else b) := rfl
theorem ex_pick (c a b : Arg) : execOpA R F H (.pick c a b) = valK H (pickA (opv F c) (opv F a) (opv F b)) := by
  simp only [execOpA, pickA, valK]
  split <;> simp_all
theorem ex_box (x : Arg) : execOpA R F H (.box x) = if (opv F x).cells.all AV.isCell = true then some (.ptr H.length 0, H ++ [.cells false false (opv F x).cells]) else none := rfl
theorem ex_build (z : List AV) (parts : List (Nat × Nat × Arg)) : execOpA R F H (.build z parts) =
    if parts.all (fun p => (opv F p.2.2).cells.length == p.2.1) = true then valK H ((fillA z (parts.map fun p => (p.1, (opv F p.2.2).cells))).map AV.agg) else none := by
  simp only [execOpA, valK]
  split
  · cases fillA z (parts.map fun p => (p.1, (opv F p.2.2).cells)) <;> rfl
  · rfl
def newK (fz z : Bool) (n es : Nat) (H : Heap) : Option (List AV) → Option (AV × Heap)
  | some cs => newA fz z n es cs H
  | none => none
theorem newK_some (fz z : Bool) (n es : Nat) (cs : List AV) : newK fz z n es H (some cs) = newA fz z n es cs H := rfl
theorem newA_own (z : Bool) (n es : Nat) (cs : List AV) : newA false z n es cs H = some (.own z H.length 0 n es, H ++ [.cells false z cs]) := rfl
def slK (z : Bool) (n : Nat) : Option (List AV) → Option AV
  | some cs => some (.sl z n cs)
  | none => none
theorem slK_some (z : Bool) (n : Nat) (cs : List AV) : slK z n (some cs) = some (.sl z n cs) := rfl
theorem newA_data (z : Bool) (n es : Nat) (cs : List AV) : newA true z n es cs H = if (cs.flatMap (bor frzN H)).isEmpty = true then valK H (slK z n (cs.mapM (frz frzN H))) else none := by
  simp only [newA, valK, slK]
  split
  · rename_i h
    cases cs.mapM (frz frzN H) <;> simp_all
  · simp_all
theorem ex_bslice (fz : Bool) (z : List AV) (es n : Nat) (parts : List (Nat × Arg)) : execOpA R F H (.bslice fz z es n parts) =
    if parts.all (fun p => (opv F p.2).cells.length == es) = true then newK fz false n es H (fillA (repz z n) (parts.map fun p => (p.1 * es, (opv F p.2).cells))) else none := by
  simp only [execOpA, newK]
  split
  · cases fillA (repz z n) (parts.map fun p => (p.1 * es, (opv F p.2).cells)) <;> rfl
  · rfl
def loadK (g : Bool) : Option (List AV) → Option AV
  | some cs => mkv g cs
  | none => none
theorem loadK_1 (v : AV) : loadK false (some [v]) = some v := rfl
theorem loadK_n (cs : List AV) : loadK true (some cs) = some (.agg cs) := rfl
theorem ex_load (g : Bool) (n : Nat) (p : Arg) : execOpA R F H (.load g n p) = valK H (loadK g (rd H (opv F p) n)) := by
  simp only [execOpA, valK, loadK]
  cases rd H (opv F p) n with
  | none => rfl
  | some cs => simp only; cases mkv g cs <;> rfl
def rdK (off n : Nat) : Option Blk → Option (List AV)
  | some (.cells _ _ cs) => if off + n ≤ cs.length then some ((cs.drop off).take n) else none
  | _ => none
theorem rd_ptr (id off n : Nat) : rd H (.ptr id off) n = rdK off n H[id]? := by
  simp only [rd, rdK]
  rfl
theorem rdK_cells {off n : Nat} {fz z : Bool} {cs : List AV} (h : off + n ≤ cs.length) : rdK off n (some (.cells fz z cs)) = some ((cs.drop off).take n) := if_pos h
theorem rd_vptr {off n : Nat} {cs : List AV} (h : off + n ≤ cs.length) : rd H (.vptr cs off) n = some ((cs.drop off).take n) := if_pos h

def wrK (H : Heap) (id off : Nat) (vs : List AV) : Option Blk → Option Heap
  | some (.cells false z cs) => if off + vs.length ≤ cs.length ∧ vs.all AV.isCell = true then some (H.set id (.cells false z (splice cs off vs))) else none
  | _ => none
theorem wr_ptr (id off : Nat) (vs : List AV) : wr H (.ptr id off) vs = wrK H id off vs H[id]? := by
  simp only [wr, wrK]
  rfl
theorem wrK_cells {id off : Nat} {vs : List AV} {z : Bool} {cs : List AV} (h : off + vs.length ≤ cs.length) (h2 : vs.all AV.isCell = true) : wrK H id off vs (some (.cells false z cs)) = some (H.set id (.cells false z (splice cs off vs))) := if_pos ⟨h, h2⟩
def storeK : Option Heap → Option (AV × Heap)
  | some H => some (.tup [], H)
  | none => none
theorem storeK_some (H : Heap) : storeK (some H) = some (.tup [], H) := rfl
theorem ex_store (n : Nat) (p v : Arg) : execOpA R F H (.store n p v) = if (opv F v).cells.length = n then storeK (wr H (opv F p) (opv F v).cells) else none := by
  simp only [execOpA, storeK]
  split
  · cases wr H (opv F p) (opv F v).cells <;> rfl
  · rfl
def nilA : AV → Option AV
  | .ptr id off => some (.ptr id off)
  | .vptr cs off => some (.vptr cs off)
  | .func f caps => some (.func f caps)
  | .yield l => some (.yield l)
  | _ => none
theorem nilA_ptr (id off : Nat) : nilA (.ptr id off) = some (.ptr id off) := rfl
theorem nilA_vptr (cs : List AV) (off : Nat) : nilA (.vptr cs off) = some (.vptr cs off) := rfl
theorem nilA_func (f : Nat) (cs : List AV) : nilA (.func f cs) = some (.func f cs) := rfl
theorem nilA_yield (l : Nat) : nilA (.yield l) = some (.yield l) := rfl
theorem ex_nilchk (x : Arg) : execOpA R F H (.nilchk x) = valK H (nilA (opv F x)) := by
  simp only [execOpA]
  cases opv F x <;> rfl
theorem ex_bin (op : BinOp) (x y : Arg) : execOpA R F H (.bin op x y) = valK H (binA op (opv F x) (opv F y)) := by
  simp only [execOpA, valK]
  cases binA op (opv F x) (opv F y) <;> rfl

section
variable (k : IntKind) (a b : Int)
theorem bin_add : binA .add (.int k a) (.int k b) = some (.int k (k.wrap (a + b))) := by simp [binA]
theorem bin_sub : binA .sub (.int k a) (.int k b) = some (.int k (k.wrap (a - b))) := by simp [binA]
theorem bin_mul : binA .mul (.int k a) (.int k b) = some (.int k (k.wrap (a * b))) := by simp [binA]
theorem bin_quo (h : b ≠ 0) : binA .quo (.int k a) (.int k b) = some (.int k (k.wrap (a.tdiv b))) := by simp [binA, h]
theorem bin_rem (h : b ≠ 0) : binA .rem (.int k a) (.int k b) = some (.int k (a.tmod b)) := by simp [binA, h]
theorem bin_and : binA .and (.int k a) (.int k b) = some (.int k (bitsA .and k a b)) := by simp [binA]
theorem bin_or : binA .or (.int k a) (.int k b) = some (.int k (bitsA .or k a b)) := by simp [binA]
theorem bin_xor : binA .xor (.int k a) (.int k b) = some (.int k (bitsA .xor k a b)) := by simp [binA]
theorem bin_andNot : binA .andNot (.int k a) (.int k b) = some (.int k (bitsA .andNot k a b)) := by simp [binA]
theorem bin_shl (k' : IntKind) (h : 0 ≤ b) : binA .shl (.int k a) (.int k' b) = some (.int k (k.wrap (a * 2 ^ (min b.toNat k.bits)))) := by simp only [binA]; rw [if_neg (by omega)]
theorem bin_shr (k' : IntKind) (h : 0 ≤ b) : binA .shr (.int k a) (.int k' b) = some (.int k (a.fdiv (2 ^ (min b.toNat k.bits)))) := by simp only [binA]; rw [if_neg (by omega)]
theorem bin_eql : binA .eql (.int k a) (.int k b) = some (.bool (decide (a = b))) := by simp [binA]; rfl
theorem bin_neq : binA .neq (.int k a) (.int k b) = some (.bool (!decide (a = b))) := by simp [binA]; rfl
theorem bin_lss : binA .lss (.int k a) (.int k b) = some (.bool (decide (a < b))) := by simp [binA]
theorem bin_leq : binA .leq (.int k a) (.int k b) = some (.bool (decide (a ≤ b))) := by simp [binA]
theorem bin_gtr : binA .gtr (.int k a) (.int k b) = some (.bool (decide (b < a))) := by simp [binA]
theorem bin_geq : binA .geq (.int k a) (.int k b) = some (.bool (decide (b ≤ a))) := by simp [binA]
end

def beqA (neg : Bool) : AV → AV → Option AV
  | .bool a, .bool b => some (.bool (if neg = true then a != b else a == b))
  | _, _ => none
theorem beqA_f (a b : Bool) : beqA false (.bool a) (.bool b) = some (.bool (decide (a = b))) := by cases a <;> cases b <;> rfl
theorem beqA_t (a b : Bool) : beqA true (.bool a) (.bool b) = some (.bool (!decide (a = b))) := by cases a <;> cases b <;> rfl
theorem ex_beq (neg : Bool) (x y : Arg) : execOpA R F H (.beq neg x y) = valK H (beqA neg (opv F x) (opv F y)) := by
  simp only [execOpA]
  cases opv F x <;> cases opv F y <;> rfl
def isnilA (neg : Bool) : AV → Option AV
  | .sl z _ _ => some (.bool (z != neg))
  | .own z _ _ _ _ => some (.bool (z != neg))
  | _ => none
theorem isnilA_slf (z : Bool) (n : Nat) (cs : List AV) : isnilA false (.sl z n cs) = some (.bool z) := by cases z <;> rfl
theorem isnilA_slt (z : Bool) (n : Nat) (cs : List AV) : isnilA true (.sl z n cs) = some (.bool (!z)) := by cases z <;> rfl
theorem isnilA_ownf (z : Bool) (id off n es : Nat) : isnilA false (.own z id off n es) = some (.bool z) := by cases z <;> rfl
theorem isnilA_ownt (z : Bool) (id off n es : Nat) : isnilA true (.own z id off n es) = some (.bool (!z)) := by cases z <;> rfl
theorem ex_isnil (neg : Bool) (x : Arg) : execOpA R F H (.isnil neg x) = valK H (isnilA neg (opv F x)) := by
  simp only [execOpA]
  cases opv F x <;> rfl
theorem ex_un (op : UnOp) (x : Arg) : execOpA R F H (.un op x) = valK H (unA op (opv F x)) := by
  simp only [execOpA, valK]
  cases unA op (opv F x) <;> rfl
theorem un_not (b : Bool) : unA .not (.bool b) = some (.bool !b) := rfl
theorem un_neg (k : IntKind) (n : Int) : unA .neg (.int k n) = some (.int k (k.wrap (0 - n))) := rfl
theorem un_xor (k : IntKind) (n : Int) : unA .xor (.int k n) = some (.int k (bitsA .xor k (if k.signed then -1 else k.max) n)) := rfl
def convA (k : IntKind) : AV → Option AV
  | .int _ n => some (.int k (k.wrap n))
  | _ => none
theorem convA_int (k k' : IntKind) (n : Int) : convA k (.int k' n) = some (.int k (k.wrap n)) := rfl
theorem ex_conv (k : IntKind) (x : Arg) : execOpA R F H (.conv k x) = valK H (convA k (opv F x)) := by
  simp only [execOpA]
  cases opv F x <;> rfl
theorem ex_mkfunc (f : Nat) (caps : List Arg) : execOpA R F H (.mkfunc f caps) = some (.func f (caps.map (opv F)), H) := rfl
def mksK (fz : Bool) (z : List AV) (bytes : Nat) (H : Heap) : AV → AV → Option (AV × Heap)
  | .int _ l, .int _ c => if 0 ≤ l ∧ l ≤ c ∧ c * bytes ≤ roomA ∧ c ≤ roomA ∧ z.all AV.isCell = true then newA fz false l.toNat z.length (repz z l.toNat) H else none
  | _, _ => none
theorem mksK_int (fz : Bool) (z : List AV) (bytes : Nat) (k k' : IntKind) {l c : Int} (h1 : 0 ≤ l) (h2 : l ≤ c) (h3 : c * bytes ≤ 140737488355328) (h4 : c ≤ 140737488355328) (h5 : z.all AV.isCell = true) : mksK fz z bytes H (.int k l) (.int k' c) = newA fz false l.toNat z.length (repz z l.toNat) H := if_pos ⟨h1, h2, h3, h4, h5⟩
theorem ex_mkslice (fz : Bool) (z : List AV) (bytes : Nat) (l c : Arg) : execOpA R F H (.mkslice fz z bytes l c) = mksK fz z bytes H (opv F l) (opv F c) := by
  simp only [execOpA]
  cases opv F l <;> cases opv F c <;> rfl

def cutK (es : Nat) (H : Heap) (x : AV) : Option (Nat × Nat) → Option AV
  | none => none
  | some (l, h) => match x with
    | .sl z _ cs => some (.sl z (h - l) ((cs.drop (l * es)).take ((h - l) * es)))
    | .own z id off _ _ => some (.own z id (off + l * es) (h - l) es)
    | _ => none
def sliceA (es : Nat) (H : Heap) (lo hi mx : Option AV) : AV → Option AV
  | .sl z n cs => if cs.length = n * es then cutK es H (.sl z n cs) (bounds n lo hi mx) else none
  | .own z id off n es' => if es' = es then cutK es H (.own z id off n es') (bounds n lo hi mx) else none
  | _ => none
theorem ex_slice (es : Nat) (x : Arg) (lo hi mx : Option Arg) : execOpA R F H (.slice es x lo hi mx) = valK H (sliceA es H (lo.map (opv F)) (hi.map (opv F)) (mx.map (opv F)) (opv F x)) := by
  simp only [execOpA, valK, sliceA, cutK]
  cases opv F x with
  | sl z n cs =>
    simp only
    split
    · cases bounds n (lo.map (opv F)) (hi.map (opv F)) (mx.map (opv F)) <;> rfl
    · rfl
  | own z id off n es' =>
    simp only
    split
    · cases bounds n (lo.map (opv F)) (hi.map (opv F)) (mx.map (opv F)) <;> rfl
    · rfl
  | _ => rfl
theorem sliceA_sl {es n : Nat} {z : Bool} {cs : List AV} (lo hi mx : Option AV) (h : cs.length = n * es) : sliceA es H lo hi mx (.sl z n cs) = cutK es H (.sl z n cs) (bounds n lo hi mx) := if_pos h
theorem sliceA_own {es n id off : Nat} {z : Bool} (lo hi mx : Option AV) : sliceA es H lo hi mx (.own z id off n es) = cutK es H (.own z id off n es) (bounds n lo hi mx) := if_pos rfl
theorem cutK_sl (es : Nat) (z : Bool) (n : Nat) (cs : List AV) (l h : Nat) : cutK es H (.sl z n cs) (some (l, h)) = some (.sl z (h - l) ((cs.drop (l * es)).take ((h - l) * es))) := rfl
theorem cutK_own (es : Nat) (z : Bool) (id off n es' : Nat) (l h : Nat) : cutK es H (.own z id off n es') (some (l, h)) = some (.own z id (off + l * es) (h - l) es) := rfl
theorem bounds_nn (n : Nat) : bounds n none none none = some (0, n) := by simp [bounds]
theorem bounds_sn {n : Nat} {k : IntKind} {l : Int} (h0 : 0 ≤ l) (h : l ≤ n) : bounds n (some (.int k l)) none none = some (l.toNat, n) := by
  simp only [bounds, natOf, if_pos h0]
  rw [if_pos ⟨by omega, by omega⟩]
theorem bounds_ns {n : Nat} {k : IntKind} {m : Int} (h0 : 0 ≤ m) (h : m ≤ n) : bounds n none (some (.int k m)) none = some (0, m.toNat) := by
  simp only [bounds, natOf, if_pos h0]
  rw [if_pos ⟨by omega, by omega⟩]
theorem bounds_ss {n : Nat} {k k' : IntKind} {l m : Int} (h0 : 0 ≤ l) (h1 : l ≤ m) (h : m ≤ n) : bounds n (some (.int k l)) (some (.int k' m)) none = some (l.toNat, m.toNat) := by
  have h2 : 0 ≤ m := by omega
  simp only [bounds, natOf, if_pos h0, if_pos h2]
  rw [if_pos ⟨by omega, by omega⟩]
def faddrA (o : Nat) : AV → Option AV
  | .ptr id off => some (.ptr id (off + o))
  | .vptr cs off => some (.vptr cs (off + o))
  | _ => none
theorem faddrA_ptr (o id off : Nat) : faddrA o (.ptr id off) = some (.ptr id (off + o)) := rfl
theorem faddrA_vptr (o : Nat) (cs : List AV) (off : Nat) : faddrA o (.vptr cs off) = some (.vptr cs (off + o)) := rfl
theorem ex_faddr (o : Nat) (x : Arg) : execOpA R F H (.faddr o x) = valK H (faddrA o (opv F x)) := by
  simp only [execOpA]
  cases opv F x <;> rfl
def fieldA (g : Bool) (off n : Nat) : AV → Option AV
  | .agg cs => if off + n ≤ cs.length then mkv g ((cs.drop off).take n) else none
  | _ => none
theorem fieldA_agg {g : Bool} {off n : Nat} {cs : List AV} (h : off + n ≤ cs.length) : fieldA g off n (.agg cs) = mkv g ((cs.drop off).take n) := if_pos h
theorem mkv_1 (v : AV) : mkv false [v] = some v := rfl
theorem mkv_n (cs : List AV) : mkv true cs = some (.agg cs) := rfl
theorem ex_field (g : Bool) (off n : Nat) (x : Arg) : execOpA R F H (.field g off n x) = valK H (fieldA g off n (opv F x)) := by
  simp only [execOpA]
  cases opv F x with
  | agg cs =>
    simp only [fieldA, valK]
    split
    · cases mkv g ((cs.drop off).take n) <;> rfl
    · rfl
  | _ => rfl
def iaddrA (es : Nat) : AV → AV → Option AV
  | .sl _ n cs, .int _ i => if 0 ≤ i ∧ i.toNat < n then some (.vptr cs (i.toNat * es)) else none
  | .own _ id off n es', .int _ i => if 0 ≤ i ∧ i.toNat < n ∧ es' = es then some (.ptr id (off + i.toNat * es)) else none
  | _, _ => none
theorem iaddrA_sl {es n : Nat} {z : Bool} {cs : List AV} {k : IntKind} {i : Int} (h0 : 0 ≤ i) (h : i < n) : iaddrA es (.sl z n cs) (.int k i) = some (.vptr cs (i.toNat * es)) := if_pos ⟨h0, by omega⟩
theorem iaddrA_own {es n id off : Nat} {z : Bool} {k : IntKind} {i : Int} (h0 : 0 ≤ i) (h : i < n) : iaddrA es (.own z id off n es) (.int k i) = some (.ptr id (off + i.toNat * es)) := if_pos ⟨h0, by omega, rfl⟩
theorem ex_iaddr (es : Nat) (x i : Arg) : execOpA R F H (.iaddr es x i) = valK H (iaddrA es (opv F x) (opv F i)) := by
  simp only [execOpA]
  cases opv F x with
  | sl z n cs =>
    cases opv F i with
    | int k j =>
      simp only [natOf, iaddrA, valK]
      by_cases h : 0 ≤ j
      · by_cases h2 : j.toNat < n <;> simp [h, h2]
      · simp [h]
    | _ => rfl
  | own z id off n es' =>
    cases opv F i with
    | int k j =>
      simp only [natOf, iaddrA, valK]
      by_cases h : 0 ≤ j
      · by_cases h2 : j.toNat < n
        · by_cases h3 : es' = es <;> simp [h, h2, h3]
        · simp [h, h2]
      · simp [h]
    | _ => rfl
  | _ => cases opv F i <;> simp [iaddrA, valK, natOf] <;> split <;> simp_all
def extA (i : Nat) : AV → Option AV
  | .tup vs => vs[i]?
  | _ => none
theorem extA_tup (i : Nat) (vs : List AV) : extA i (.tup vs) = vs[i]? := rfl
theorem ex_ext (i : Nat) (x : Arg) : execOpA R F H (.ext i x) = valK H (extA i (opv F x)) := by
  simp only [execOpA]
  cases opv F x with
  | tup vs => simp only [extA, valK]; cases vs[i]? <;> rfl
  | _ => rfl
def lenA : AV → Option AV
  | .sl _ n _ => some (.int .i64 n)
  | .own _ _ _ n _ => some (.int .i64 n)
  | _ => none
theorem lenA_sl (z : Bool) (n : Nat) (cs : List AV) : lenA (.sl z n cs) = some (.int .i64 n) := rfl
theorem lenA_own (z : Bool) (id off n es : Nat) : lenA (.own z id off n es) = some (.int .i64 n) := rfl
theorem ex_len (x : Arg) : execOpA R F H (.len x) = valK H (lenA (opv F x)) := by
  simp only [execOpA]
  cases opv F x <;> rfl
theorem ex_cap (x : Arg) : execOpA R F H (.cap x) = match opv F x with
  | .sl true _ _ => some (.int .i64 0, H)
  | _ => none := rfl
def aeqA (neg : Bool) (n : Nat) : AV → AV → Option AV
  | .agg cs, .agg ds => if cs.length = n then (eqCells cs ds).map fun b => .bool (b != neg) else none
  | _, _ => none
theorem aeqA_agg {neg : Bool} {n : Nat} {cs ds : List AV} (h : cs.length = n) : aeqA neg n (.agg cs) (.agg ds) = (eqCells cs ds).map fun b => .bool (b != neg) := if_pos h
theorem ex_aeq (neg : Bool) (n : Nat) (x y : Arg) : execOpA R F H (.aeq neg n x y) = valK H (aeqA neg n (opv F x) (opv F y)) := by
  simp only [execOpA]
  cases opv F x with
  | agg cs => cases opv F y with
    | agg ds =>
      simp only [aeqA, valK]
      split
      · cases eqCells cs ds <;> rfl
      · rfl
    | _ => rfl
  | _ => rfl

/-- an append, when what is to be added is known -/
def appK (fz : Bool) (es bytes : Nat) (H : Heap) (x : AV) : Option (Nat × List AV) → Option (AV × Heap)
  | none => none
  | some (m, ys) => match x with
    | .sl true _ _ => if m * bytes ≤ roomA ∧ m ≤ roomA then newA fz (m == 0) m es ys H else none
    | .own z id off n es' => match H[id]? with
      | some (.cells false _ cs) => if off = 0 ∧ es' = es ∧ n * es ≤ cs.length ∧ (n + m) * bytes ≤ roomA ∧ n + m ≤ roomA then
          some (.own (z && m == 0) H.length 0 (n + m) es, H.set id .dead ++ [.cells false (z && m == 0) (cs.take (n * es) ++ ys)]) else none
      | _ => none
    | _ => none
theorem ex_append (fz : Bool) (es bytes : Nat) (x y : Arg) : execOpA R F H (.append fz es bytes x y) = appK fz es bytes H (opv F x) (src H es (opv F y)) := by
  simp only [execOpA, appK]
  cases src H es (opv F y) <;> rfl
theorem appK_nil {fz : Bool} {es bytes n m : Nat} {cs ys : List AV} (h : m * bytes ≤ 140737488355328) (h2 : m ≤ 140737488355328) : appK fz es bytes H (.sl true n cs) (some (m, ys)) = newA fz (m == 0) m es ys H := if_pos ⟨h, h2⟩
def appOK (es bytes n m : Nat) (H : Heap) (z : Bool) (id : Nat) (ys : List AV) : Option Blk → Option (AV × Heap)
  | some (.cells false _ cs) => if n * es ≤ cs.length ∧ (n + m) * bytes ≤ roomA ∧ n + m ≤ roomA then
      some (.own (z && m == 0) H.length 0 (n + m) es, H.set id .dead ++ [.cells false (z && m == 0) (cs.take (n * es) ++ ys)]) else none
  | _ => none
theorem appK_own (fz : Bool) (es bytes n m id : Nat) (z : Bool) (ys : List AV) : appK fz es bytes H (.own z id 0 n es) (some (m, ys)) = appOK es bytes n m H z id ys H[id]? := by
  simp only [appK, appOK]
  split
  · rename_i z' cs hb
    by_cases h : n * es ≤ cs.length ∧ (n + m) * bytes ≤ roomA ∧ n + m ≤ roomA
    · rw [if_pos h, if_pos ⟨trivial, trivial, h⟩]
    · rw [if_neg h, if_neg (fun g => h g.2.2)]
  · rename_i hne
    cases hb : H[id]? with
    | none => rfl
    | some b => cases b with
      | cells fz z cs => cases fz with
        | false => exact (hne _ _ hb).elim
        | true => rfl
      | _ => rfl
theorem appOK_cells {es bytes n m id : Nat} {z z' : Bool} {ys cs : List AV} (h : n * es ≤ cs.length) (h2 : (n + m) * bytes ≤ 140737488355328) (h3 : n + m ≤ 140737488355328) : appOK es bytes n m H z id ys (some (.cells false z' cs)) =
    some (.own (z && m == 0) H.length 0 (n + m) es, H.set id .dead ++ [.cells false (z && m == 0) (cs.take (n * es) ++ ys)]) := if_pos ⟨h, h2, h3⟩
theorem src_sl {es n : Nat} {z : Bool} {cs : List AV} (h : cs.length = n * es) : src H es (.sl z n cs) = some (n, cs) := if_pos h
def srcK (off n es : Nat) : Option Blk → Option (Nat × List AV)
  | some (.cells _ _ cs) => if off + n * es ≤ cs.length then some (n, (cs.drop off).take (n * es)) else none
  | _ => none
theorem src_own (es n id off : Nat) (z : Bool) : src H es (.own z id off n es) = srcK off n es H[id]? := by
  simp only [src, srcK]
  cases H[id]? with
  | none => rfl
  | some b => cases b <;> simp
theorem srcK_cells {es n off : Nat} {fz z : Bool} {cs : List AV} (h : off + n * es ≤ cs.length) : srcK off n es (some (.cells fz z cs)) = some (n, (cs.drop off).take (n * es)) := if_pos h
def appzK (z : List AV) (bytes : Nat) (H : Heap) : AV → AV → Option (AV × Heap)
  | .sl true _ _, .int _ m => if 0 ≤ m ∧ m.toNat * bytes ≤ roomA ∧ m.toNat ≤ roomA ∧ z.all AV.isCell = true then newA false (m.toNat == 0) m.toNat z.length (repz z m.toNat) H else none
  | _, _ => none
theorem ex_appendz (z : List AV) (bytes : Nat) (x n : Arg) : execOpA R F H (.appendz z bytes x n) = appzK z bytes H (opv F x) (opv F n) := by
  simp only [execOpA]
  cases hn : opv F n with
  | int k m =>
    simp only [natOf]
    by_cases h : 0 ≤ m
    · cases hx : opv F x with
      | sl zz nn cs => cases zz <;> simp [appzK, h]
      | _ => simp [appzK, h]
    · cases hx : opv F x with
      | sl zz nn cs => cases zz <;> simp [appzK, h]
      | _ => simp [appzK, h]
  | _ =>
    cases hx : opv F x with
    | sl zz nn cs => cases zz <;> simp [appzK, natOf]
    | _ => simp [appzK, natOf]
theorem appzK_int {z : List AV} {bytes n : Nat} {cs : List AV} {k : IntKind} {m : Int} (h0 : 0 ≤ m) (h1 : m.toNat * bytes ≤ 140737488355328) (h2 : m.toNat ≤ 140737488355328) (h3 : z.all AV.isCell = true) : appzK z bytes H (.sl true n cs) (.int k m) = newA false (m.toNat == 0) m.toNat z.length (repz z m.toNat) H := if_pos ⟨h0, h1, h2, h3⟩
def maxA : AV → AV → Option AV
  | .int k a, .int _ b => some (.int k (max a b))
  | _, _ => none
def minA : AV → AV → Option AV
  | .int k a, .int _ b => some (.int k (min a b))
  | _, _ => none
theorem maxA_int (k k' : IntKind) (a b : Int) : maxA (.int k a) (.int k' b) = some (.int k (max a b)) := rfl
theorem minA_int (k k' : IntKind) (a b : Int) : minA (.int k a) (.int k' b) = some (.int k (min a b)) := rfl
theorem ex_maxi (x y : Arg) : execOpA R F H (.maxi x y) = valK H (maxA (opv F x) (opv F y)) := by
  simp only [execOpA]
  cases opv F x with
  | int k a => cases opv F y with
    | int k' b => simp only [maxA, valK]; congr 3; split <;> omega
    | _ => rfl
  | _ => rfl
theorem ex_mini (x y : Arg) : execOpA R F H (.mini x y) = valK H (minA (opv F x) (opv F y)) := by
  simp only [execOpA]
  cases opv F x with
  | int k a => cases opv F y with
    | int k' b => simp only [minA, valK]; congr 3; split <;> omega
    | _ => rfl
  | _ => rfl

theorem repz_0 (z : List AV) : repz z 0 = [] := rfl
theorem repz_1 (z : List AV) : repz z 1 = z ++ ([]) := rfl
theorem repz_2 (z : List AV) : repz z 2 = z ++ (z ++ ([])) := rfl
theorem repz_3 (z : List AV) : repz z 3 = z ++ (z ++ (z ++ ([]))) := rfl
theorem repz_4 (z : List AV) : repz z 4 = z ++ (z ++ (z ++ (z ++ ([])))) := rfl
theorem repz_5 (z : List AV) : repz z 5 = z ++ (z ++ (z ++ (z ++ (z ++ ([]))))) := rfl
theorem repz_6 (z : List AV) : repz z 6 = z ++ (z ++ (z ++ (z ++ (z ++ (z ++ ([])))))) := rfl
theorem repz_7 (z : List AV) : repz z 7 = z ++ (z ++ (z ++ (z ++ (z ++ (z ++ (z ++ ([]))))))) := rfl
theorem repz_8 (z : List AV) : repz z 8 = z ++ (z ++ (z ++ (z ++ (z ++ (z ++ (z ++ (z ++ ([])))))))) := rfl
theorem repz_9 (z : List AV) : repz z 9 = z ++ (z ++ (z ++ (z ++ (z ++ (z ++ (z ++ (z ++ (z ++ ([]))))))))) := rfl
theorem repz_10 (z : List AV) : repz z 10 = z ++ (z ++ (z ++ (z ++ (z ++ (z ++ (z ++ (z ++ (z ++ (z ++ ([])))))))))) := rfl
theorem repz_11 (z : List AV) : repz z 11 = z ++ (z ++ (z ++ (z ++ (z ++ (z ++ (z ++ (z ++ (z ++ (z ++ (z ++ ([]))))))))))) := rfl
theorem repz_12 (z : List AV) : repz z 12 = z ++ (z ++ (z ++ (z ++ (z ++ (z ++ (z ++ (z ++ (z ++ (z ++ (z ++ (z ++ ([])))))))))))) := rfl
/-! values as data -/
theorem frz_int (d : Nat) (k : IntKind) (n : Int) : frz d H (.int k n) = some (.int k n) := by cases d <;> rfl
theorem frz_bool (d : Nat) (b : Bool) : frz d H (.bool b) = some (.bool b) := by cases d <;> rfl
theorem frz_str (d : Nat) (b : ByteArray) : frz d H (.str b) = some (.str b) := by cases d <;> rfl
theorem frz_nilp (d : Nat) : frz d H .nilp = some .nilp := by cases d <;> rfl
theorem frz_nilf (d : Nat) : frz d H .nilf = some .nilf := by cases d <;> rfl
theorem frz_any (d : Nat) : frz d H .any = some .any := by cases d <;> rfl
theorem frz_func (d f : Nat) : frz d H (.func f []) = some (.func f []) := by cases d <;> rfl
theorem frz_sl (d : Nat) (z : Bool) (n : Nat) (cs : List AV) : frz d H (.sl z n cs) = some (.sl z n cs) := by cases d <;> rfl
theorem frz_agg (d : Nat) (cs : List AV) : frz (d + 1) H (.agg cs) = (cs.mapM (frz d H)).map AV.agg := rfl
theorem frz_tup (d : Nat) (cs : List AV) : frz (d + 1) H (.tup cs) = (cs.mapM (frz d H)).map AV.tup := rfl
def frzK (d : Nat) (H : Heap) (z : Bool) (off n es : Nat) : Option Blk → Option AV
  | some (.cells _ _ cs) => if off + n * es ≤ cs.length then slK z n (((cs.drop off).take (n * es)).mapM (frz d H)) else none
  | _ => none
theorem frz_own (d : Nat) (z : Bool) (id off n es : Nat) : frz (d + 1) H (.own z id off n es) = frzK d H z off n es H[id]? := by
  simp only [frz, frzK]
  cases H[id]? with
  | none => rfl
  | some b => cases b with
    | cells fz z' cs =>
      simp only
      split
      · cases ((cs.drop off).take (n * es)).mapM (frz d H) <;> rfl
      · rfl
    | _ => rfl
theorem frzK_cells {d off n es : Nat} {z fz z' : Bool} {cs : List AV} (h : off + n * es ≤ cs.length) : frzK d H z off n es (some (.cells fz z' cs)) = slK z n (((cs.drop off).take (n * es)).mapM (frz d H)) := if_pos h

/-! what a value leans on -/
theorem bor_int (d : Nat) (k : IntKind) (n : Int) : bor d H (.int k n) = [] := by cases d <;> rfl
theorem bor_bool (d : Nat) (b : Bool) : bor d H (.bool b) = [] := by cases d <;> rfl
theorem bor_str (d : Nat) (b : ByteArray) : bor d H (.str b) = [] := by cases d <;> rfl
theorem bor_nilp (d : Nat) : bor d H .nilp = [] := by cases d <;> rfl
theorem bor_nilf (d : Nat) : bor d H .nilf = [] := by cases d <;> rfl
theorem bor_any (d : Nat) : bor d H .any = [] := by cases d <;> rfl
theorem bor_func (d f : Nat) (cs : List AV) : bor d H (.func f cs) = [] := by cases d <;> rfl
theorem run_fz (ss : List Nat) (b : ACode) (s : St) : run R (.fz ss b) s = run R b ⟨s.F, fzIds s.H (ss.flatMap fun i => bor frzN s.H (s.F.getD i .any))⟩ := rfl
def fzsK (R : Rec) (i : Nat) (b : ACode) (s : St) (ids : List Nat) : Option AV → Option (AExit × St)
  | some v => run R b ⟨s.F.set i v, fzIds s.H ids⟩
  | none => none
theorem run_fzs (i : Nat) (b : ACode) (s : St) : run R (.fzs i b) s = fzsK R i b s (bor frzN s.H (s.F.getD i .any)) (frz frzN s.H (s.F.getD i .any)) := by
  simp only [run, fzsK]
  cases frz frzN s.H (s.F.getD i .any) <;> rfl
theorem fzsK_some (i : Nat) (b : ACode) (s : St) (ids : List Nat) (v : AV) : fzsK R i b s ids (some v) = run R b ⟨s.F.set i v, fzIds s.H ids⟩ := rfl
def ptrK (d : Nat) (H : Heap) (off : Nat) : Option Blk → Option AV
  | some (.cells _ _ cs) => (cs.mapM (frz d H)).map fun cs' => .vptr cs' off
  | _ => none
theorem frz_ptr (d i o : Nat) : frz (d + 1) H (.ptr i o) = ptrK d H o H[i]? := by
  simp only [frz, ptrK]
  cases H[i]? with
  | none => rfl
  | some b => cases b <;> rfl
theorem ptrK_cells (d : Nat) (o : Nat) (fz z : Bool) (cs : List AV) : ptrK d H o (some (.cells fz z cs)) = (cs.mapM (frz d H)).map fun cs' => .vptr cs' o := rfl
theorem frz_vptr (d : Nat) (cs : List AV) (o : Nat) : frz d H (.vptr cs o) = some (.vptr cs o) := by cases d <;> rfl
def borPK (d : Nat) (H : Heap) : Option Blk → List Nat
  | some (.cells _ _ cs) => cs.flatMap (bor d H)
  | _ => []
theorem bor_ptr (d i o : Nat) : bor (d + 1) H (.ptr i o) = i :: borPK d H H[i]? := by
  simp only [bor, borPK]
  cases H[i]? with
  | none => rfl
  | some b => cases b <;> rfl
theorem borPK_cells (d : Nat) (fz z : Bool) (cs : List AV) : borPK d H (some (.cells fz z cs)) = cs.flatMap (bor d H) := rfl
theorem bor_vptr (d : Nat) (cs : List AV) (o : Nat) : bor d H (.vptr cs o) = [] := by cases d <;> rfl
def frzBK : Option Blk → Bool
  | some (.cells true _ _) => true
  | _ => false
theorem frozenB_eq (i : Nat) : frozenB H i = frzBK H[i]? := by
  simp only [frozenB, frzBK]
  cases H[i]? with
  | none => rfl
  | some b => cases b with
    | cells fz z cs => cases fz <;> rfl
    | _ => rfl
theorem frzBK_t (z : Bool) (cs : List AV) : frzBK (some (.cells true z cs)) = true := rfl
theorem bor_sl (d : Nat) (z : Bool) (n : Nat) (cs : List AV) : bor d H (.sl z n cs) = [] := by cases d <;> rfl
theorem bor_agg (d : Nat) (cs : List AV) : bor (d + 1) H (.agg cs) = cs.flatMap (bor d H) := rfl
theorem bor_tup (d : Nat) (cs : List AV) : bor (d + 1) H (.tup cs) = cs.flatMap (bor d H) := rfl
def borK (d : Nat) (H : Heap) (off n es : Nat) : Option Blk → List Nat
  | some (.cells _ _ cs) => ((cs.drop off).take (n * es)).flatMap (bor d H)
  | _ => []
theorem bor_own (d : Nat) (z : Bool) (id off n es : Nat) : bor (d + 1) H (.own z id off n es) = id :: borK d H off n es H[id]? := by
  simp only [bor, borK]
  cases H[id]? with
  | none => rfl
  | some b => cases b <;> rfl
theorem borK_cells (d off n es : Nat) (fz z : Bool) (cs : List AV) : borK d H off n es (some (.cells fz z cs)) = ((cs.drop off).take (n * es)).flatMap (bor d H) := rfl

/-! calls -/
def retK (args : List AV) (H : Heap) : Option AV → Option (AV × Heap)
  | some r => some (r, if scal r = true then H else fzIds H (args.flatMap (bor frzN H)))
  | none => none
theorem retK_some (args : List AV) (r : AV) : retK args H (some r) = some (r, if scal r = true then H else fzIds H (args.flatMap (bor frzN H))) := rfl
theorem retK_none (args : List AV) : retK args H none = none := rfl
theorem retK_ite (args : List AV) {c : Prop} [Decidable c] (x y : Option AV) : retK args H (if c then x else y) = if c then retK args H x else retK args H y := by split <;> rfl
def argK (R : Rec) (f : Nat) (args : List AV) (H : Heap) : Option (List AV) → Option (AV × Heap)
  | some args' => retK args H (R.pcall f args')
  | none => none
theorem argK_some (f : Nat) (args args' : List AV) : argK R f args H (some args') = retK args H (R.pcall f args') := rfl
theorem pcallA_eq (f : Nat) (args : List AV) : pcallA R f args H = argK R f args H (args.mapM (frz frzN H)) := by
  simp only [pcallA, argK]
  cases args.mapM (frz frzN H) with
  | none => rfl
  | some args' => simp only [retK]; cases R.pcall f args' <;> rfl
theorem ex_call (f : Nat) (args : List Arg) : execOpA R F H (.call f args) = pcallA R f (args.map (opv F)) H := rfl
theorem ex_icall (f : Arg) (args : List Arg) : execOpA R F H (.icall f args) = R.icall (opv F f) (args.map (opv F)) H := rfl
def fcallK (R : Rec) (args : List AV) (H : Heap) : AV → Option (AV × Heap)
  | .func g caps => pcallA R g (args ++ caps) H
  | _ => none
theorem fcallK_func (args : List AV) (g : Nat) (caps : List AV) : fcallK R args H (.func g caps) = pcallA R g (args ++ caps) H := rfl
theorem ex_fcall (f : Arg) (args : List Arg) : execOpA R F H (.fcall f args) = fcallK R (args.map (opv F)) H (opv F f) := by
  simp only [execOpA]
  cases opv F f <;> rfl

/-! in whatever order -/
def quietK (args : List AV) (H : Heap) : Option (AV × Heap) → Option (AV × Heap)
  | some (r, _) => if quietCall r H args = true then some (r, H) else none
  | none => none
theorem quietK_some (args : List AV) (r : AV) (H' : Heap) : quietK args H (some (r, H')) = if quietCall r H args = true then some (r, H) else none := rfl
theorem quietK_none (args : List AV) : quietK args H none = none := rfl
theorem quietK_ite (args : List AV) {c : Prop} [Decidable c] (x y : Option (AV × Heap)) : quietK args H (if c then x else y) = if c then quietK args H x else quietK args H y := by split <;> rfl
theorem fe_call (f : Nat) (args : List Arg) : freeEx R F H (.call f args) = quietK (args.map (opv F)) H (pcallA R f (args.map (opv F)) H) := by
  simp only [freeEx, freeOpA, quietK]
  cases pcallA R f (args.map (opv F)) H with
  | none => rfl
  | some r => obtain ⟨r, H'⟩ := r; simp only; split <;> rfl
def fquietK (R : Rec) (args : List AV) (H : Heap) : AV → Option (AV × Heap)
  | .func g caps => quietK (args ++ caps) H (pcallA R g (args ++ caps) H)
  | _ => none
theorem fquietK_func (args : List AV) (g : Nat) (caps : List AV) : fquietK R args H (.func g caps) = quietK (args ++ caps) H (pcallA R g (args ++ caps) H) := rfl
theorem fe_fcall (f : Arg) (args : List Arg) : freeEx R F H (.fcall f args) = fquietK R (args.map (opv F)) H (opv F f) := by
  simp only [freeEx, freeOpA, quietK, fquietK]
  cases opv F f with
  | func g caps =>
    simp only
    cases pcallA R g (args.map (opv F) ++ caps) H with
    | none => rfl
    | some r => obtain ⟨r, H'⟩ := r; simp only; split <;> rfl
  | _ => rfl
theorem fe_box (v : AV) : freeEx R F H (.box (.c v)) = if v.cells.all AV.isCell = true then some (.any, H) else none := by
  simp only [freeEx, freeOpA]
  split <;> rfl
/-- an operation that leaves the heap as it is -/
def fstK (H : Heap) : Option (AV × Heap) → Option (AV × Heap)
  | some (v, _) => some (v, H)
  | none => none
theorem fstK_some (v : AV) (H' : Heap) : fstK H (some (v, H')) = some (v, H) := rfl
theorem fstK_none : fstK H none = none := rfl
theorem fstK_ite {c : Prop} [Decidable c] (x y : Option (AV × Heap)) : fstK H (if c then x else y) = if c then fstK H x else fstK H y := by split <;> rfl
theorem fe_of (op : AOp) (h : freeOpA R F H op = (execOpA R F H op).map (·.1)) : freeEx R F H op = fstK H (execOpA R F H op) := by
  simp only [freeEx, h, fstK]
  cases execOpA R F H op <;> rfl
theorem fe_mov (x : Arg) : freeEx R F H (.mov x) = fstK H (execOpA R F H (.mov x)) := fe_of _ rfl
theorem fe_pick (c a b : Arg) : freeEx R F H (.pick c a b) = fstK H (execOpA R F H (.pick c a b)) := fe_of _ rfl
theorem fe_build (z : List AV) (parts : List (Nat × Nat × Arg)) : freeEx R F H (.build z parts) = fstK H (execOpA R F H (.build z parts)) := fe_of _ rfl
theorem fe_bslice (z : List AV) (es n : Nat) (parts : List (Nat × Arg)) : freeEx R F H (.bslice true z es n parts) = fstK H (execOpA R F H (.bslice true z es n parts)) := fe_of _ rfl
theorem fe_load (g : Bool) (n : Nat) (p : Arg) : freeEx R F H (.load g n p) = fstK H (execOpA R F H (.load g n p)) := fe_of _ rfl
theorem fe_nilchk (x : Arg) : freeEx R F H (.nilchk x) = fstK H (execOpA R F H (.nilchk x)) := fe_of _ rfl
theorem fe_bin (op : BinOp) (x y : Arg) : freeEx R F H (.bin op x y) = fstK H (execOpA R F H (.bin op x y)) := fe_of _ rfl
theorem fe_beq (neg : Bool) (x y : Arg) : freeEx R F H (.beq neg x y) = fstK H (execOpA R F H (.beq neg x y)) := fe_of _ rfl
theorem fe_isnil (neg : Bool) (x : Arg) : freeEx R F H (.isnil neg x) = fstK H (execOpA R F H (.isnil neg x)) := fe_of _ rfl
theorem fe_un (op : UnOp) (x : Arg) : freeEx R F H (.un op x) = fstK H (execOpA R F H (.un op x)) := fe_of _ rfl
theorem fe_conv (k : IntKind) (x : Arg) : freeEx R F H (.conv k x) = fstK H (execOpA R F H (.conv k x)) := fe_of _ rfl
theorem fe_mkfunc (f : Nat) (caps : List Arg) : freeEx R F H (.mkfunc f caps) = fstK H (execOpA R F H (.mkfunc f caps)) := fe_of _ rfl
theorem fe_mkslice (z : List AV) (bytes : Nat) (l c : Arg) : freeEx R F H (.mkslice true z bytes l c) = fstK H (execOpA R F H (.mkslice true z bytes l c)) := fe_of _ rfl
theorem fe_slice (es : Nat) (x : Arg) (lo hi mx : Option Arg) : freeEx R F H (.slice es x lo hi mx) = fstK H (execOpA R F H (.slice es x lo hi mx)) := fe_of _ rfl
theorem fe_faddr (o : Nat) (x : Arg) : freeEx R F H (.faddr o x) = fstK H (execOpA R F H (.faddr o x)) := fe_of _ rfl
theorem fe_field (g : Bool) (off n : Nat) (x : Arg) : freeEx R F H (.field g off n x) = fstK H (execOpA R F H (.field g off n x)) := fe_of _ rfl
theorem fe_iaddr (es : Nat) (x i : Arg) : freeEx R F H (.iaddr es x i) = fstK H (execOpA R F H (.iaddr es x i)) := fe_of _ rfl
theorem fe_ext (i : Nat) (x : Arg) : freeEx R F H (.ext i x) = fstK H (execOpA R F H (.ext i x)) := fe_of _ rfl
theorem fe_len (x : Arg) : freeEx R F H (.len x) = fstK H (execOpA R F H (.len x)) := fe_of _ rfl
theorem fe_cap (x : Arg) : freeEx R F H (.cap x) = fstK H (execOpA R F H (.cap x)) := fe_of _ rfl
theorem fe_aeq (neg : Bool) (n : Nat) (x y : Arg) : freeEx R F H (.aeq neg n x y) = fstK H (execOpA R F H (.aeq neg n x y)) := fe_of _ rfl
theorem fe_maxi (x y : Arg) : freeEx R F H (.maxi x y) = fstK H (execOpA R F H (.maxi x y)) := fe_of _ rfl
theorem fe_mini (x y : Arg) : freeEx R F H (.mini x y) = fstK H (execOpA R F H (.mini x y)) := fe_of _ rfl
/-- an append in whatever order -/
def fappK (es bytes : Nat) (H : Heap) (x : AV) (o : Option (Nat × List AV)) : Option (AV × Heap) := match x with
  | .sl _ _ _ => fstK H (appK true es bytes H x o)
  | _ => none
theorem fappK_sl (es bytes : Nat) (z : Bool) (n : Nat) (cs : List AV) (o : Option (Nat × List AV)) : fappK es bytes H (.sl z n cs) o = fstK H (appK true es bytes H (.sl z n cs) o) := rfl
theorem fe_append (es bytes : Nat) (x y : Arg) : freeEx R F H (.append true es bytes x y) = fappK es bytes H (opv F x) (src H es (opv F y)) := by
  simp only [freeEx, freeOpA, fappK]
  cases h : opv F x with
  | sl z n cs =>
    simp only [ex_append, h, fstK]
    cases appK true es bytes H (.sl z n cs) (src H es (opv F y)) <;> rfl
  | _ => rfl

/-! functions -/
def retvK (H : Heap) : Option AV → Option (AV × Heap)
  | some v => some (v, H)
  | none => none
theorem retvK_some (v : AV) : retvK H (some v) = some (v, H) := rfl
def bodyK (rs : List ARes) : Option (AExit × St) → Option (AV × Heap)
  | some (.normal, s) => retvK s.H (resultsA rs s)
  | some (.ret, s) => retvK s.H (resultsA rs s)
  | _ => none
theorem bodyK_normal (rs : List ARes) (F : List AV) (H : Heap) : bodyK rs (some (.normal, ⟨F, H⟩)) = retvK H (resultsA rs ⟨F, H⟩) := rfl
theorem bodyK_ret (rs : List ARes) (F : List AV) (H : Heap) : bodyK rs (some (.ret, ⟨F, H⟩)) = retvK H (resultsA rs ⟨F, H⟩) := rfl
theorem bodyK_none (rs : List ARes) : bodyK rs none = none := rfl
theorem bodyK_ite (rs : List ARes) {c : Prop} [Decidable c] (x y : Option (AExit × St)) : bodyK rs (if c then x else y) = if c then bodyK rs x else bodyK rs y := by split <;> rfl
/-- empty slots -/
def pads : Nat → List AV
  | 0 => []
  | n + 1 => .tup [] :: pads n
theorem pads_eq : ∀ n, List.replicate n (AV.tup []) = pads n
  | 0 => rfl
  | n + 1 => by rw [List.replicate_succ, pads_eq n]; rfl
theorem bodyA_eq (n : Nat) (code : ACode) (rs : List ARes) (args : List AV) : bodyA R ⟨n, code, rs⟩ args H = bodyK rs (run R code ⟨args ++ pads (n - args.length), H⟩) := by
  rw [← pads_eq]
  simp only [bodyA, bodyK, enterA, retvK]
  cases h : run R code ⟨args ++ List.replicate (n - args.length) (.tup []), H⟩ with
  | none => rfl
  | some r =>
    obtain ⟨e, s⟩ := r
    cases e with
    | exit i => rfl
    | _ => simp only; cases resultsA rs s <;> rfl
def pbodyK : Option (AV × Heap) → Option AV
  | some (r, H') => frz frzN H' r
  | none => none
theorem pbodyK_some (r : AV) (H' : Heap) : pbodyK (some (r, H')) = frz frzN H' r := rfl
theorem pbodyK_none : pbodyK none = none := rfl
theorem pbodyK_ite {c : Prop} [Decidable c] (x y : Option (AV × Heap)) : pbodyK (if c then x else y) = if c then pbodyK x else pbodyK y := by split <;> rfl
theorem pbodyA_eq (fn : AFunc) (args : List AV) : pbodyA R fn args = pbodyK (bodyA R fn args []) := by
  simp only [pbodyA, pbodyK]
  cases bodyA R fn args [] <;> rfl
def cellK (g : Bool) : Option (List AV) → Option AV
  | some cs => mkv g cs
  | none => none
theorem cellK_some (g : Bool) (cs : List AV) : cellK g (some cs) = mkv g cs := rfl
theorem res_tmp (t : Nat) : resA ⟨F, H⟩ (.tmp t) = some (F.getD t .any) := rfl
theorem res_cell (t : Nat) (g : Bool) (n : Nat) : resA ⟨F, H⟩ (.cell t g n) = cellK g (rd H (F.getD t .any) n) := by
  simp only [resA, cellK]
  cases rd H (F.getD t .any) n <;> rfl
theorem results_0 : resultsA [] s = some (.tup []) := rfl
theorem results_1 (r : ARes) : resultsA [r] s = resA s r := rfl
def resK (s : St) (rs : List ARes) : Option AV → Option (List AV)
  | some v => (resL s rs).map (v :: ·)
  | none => none
theorem resK_some (rs : List ARes) (v : AV) : resK s rs (some v) = (resL s rs).map (v :: ·) := rfl
theorem resL_nil : resL s [] = some [] := rfl
theorem resL_cons (r : ARes) (rs : List ARes) : resL s (r :: rs) = resK s rs (resA s r) := by
  simp only [resL, resK]
  cases resA s r <;> rfl
theorem results_2 (r r' : ARes) (rs : List ARes) : resultsA (r :: r' :: rs) s = (resL s (r :: r' :: rs)).map .tup := rfl

/-! ranges over functions -/
def rangeEnd (F : List AV) (l : Nat) : Option (AV × Heap) → Option (AExit × St)
  | some (_, H') => match H'[l]? with
    | some (.loop st pend _ _ _ _) => if st = 1 then none else some ((match pend with | none => .normal | some e => e), ⟨F, H'.set l .dead⟩)
    | _ => none
  | none => none
def rangeK (R : Rec) (F : List AV) (H : Heap) (ps : List Nat) (asg body : ACode) : AV → Option (AExit × St)
  | .func g caps => rangeEnd F H.length (R.icall (.func g caps) [.yield H.length] (H ++ [.loop 0 none F ps asg body]))
  | _ => none
theorem run_range (f : Arg) (ps : List Nat) (asg body : ACode) (F : List AV) (H : Heap) : run R (.range f ps asg body) ⟨F, H⟩ = rangeK R F H ps asg body (opv F f) := by
  simp only [run]
  cases opv F f with
  | func g caps =>
    simp only [rangeK, rangeEnd]
    cases R.icall (.func g caps) [.yield H.length] (H ++ [.loop 0 none F ps asg body]) with
    | none => rfl
    | some r =>
      obtain ⟨v, H'⟩ := r
      simp only
      cases H'[H.length]? with
      | none => rfl
      | some b => cases b <;> rfl
  | _ => rfl
theorem rangeK_func (ps : List Nat) (asg body : ACode) (g : Nat) (caps : List AV) : rangeK R F H ps asg body (.func g caps) = rangeEnd F H.length (R.icall (.func g caps) [.yield H.length] (H ++ [.loop 0 none F ps asg body])) := rfl

/-! one round of a range over a function -/
def roundEnd (l : Nat) (e : AExit) (H : Heap) : Option Blk → Option (AV × Heap)
  | some (.loop 1 _ F ps asg body) => some (match e with
    | .normal => (.bool true, H.set l (.loop 0 none F ps asg body))
    | e => (.bool false, H.set l (.loop 2 (some e) F ps asg body)))
  | _ => none
def roundBody (l : Nat) : Option (AExit × St) → Option (AV × Heap)
  | some (e, s) => roundEnd l e s.H s.H[l]?
  | none => none
def roundMid (R : Rec) (l : Nat) (body0 : ACode) (s : St) : Option Blk → Option (AV × Heap)
  | some (.loop 0 pend F ps asg body) => roundBody l (run R body0 ⟨s.F, s.H.set l (.loop 1 pend F ps asg body)⟩)
  | _ => none
def roundAsg (R : Rec) (l : Nat) (body0 : ACode) : Option (AExit × St) → Option (AV × Heap)
  | some (.normal, s) => roundMid R l body0 s s.H[l]?
  | _ => none
def roundK (R : Rec) (l : Nat) (args : List AV) (H : Heap) : Option Blk → Option (AV × Heap)
  | some (.loop 0 _ F ps asg body) => if args.length = ps.length ∧ asg.noRange = true ∧ body.noRange = true then roundAsg R l body (run R asg ⟨(ps.zip args).foldl (fun F (p, v) => F.set p v) F, H⟩) else none
  | _ => none
theorem roundA_eq (l : Nat) (args : List AV) (H : Heap) (asg body : ACode) (F : List AV) (ps : List Nat) (pend : Option AExit) (hH : H[l]? = some (.loop 0 pend F ps asg body)) (h1 : args.length = ps.length) (h2 : asg.noRange = true) (h3 : body.noRange = true) :
    roundA R l args H = roundAsg R l body (run R asg ⟨(ps.zip args).foldl (fun F (p, v) => F.set p v) F, H⟩) := by
  unfold roundA
  rw [hH]
  simp only
  rw [if_pos ⟨h1, h2, h3⟩]
  cases ha : run R asg ⟨(ps.zip args).foldl (fun F (p, v) => F.set p v) F, H⟩ with
  | none => rfl
  | some r =>
    obtain ⟨e, s1⟩ := r
    cases e with
    | normal =>
      simp only [roundAsg]
      cases hb : s1.H[l]? with
      | none => rfl
      | some b =>
        cases b with
        | loop st pend1 F1 ps1 asg1 body1 =>
          match st with
          | 0 =>
            simp only [roundMid]
            cases hr : run R body ⟨s1.F, s1.H.set l (.loop 1 pend1 F1 ps1 asg1 body1)⟩ with
            | none => rfl
            | some r =>
              obtain ⟨e, s2⟩ := r
              simp only [roundBody]
              cases hc : s2.H[l]? with
              | none => rfl
              | some b =>
                cases b with
                | loop st2 pend2 F2 ps2 asg2 body2 =>
                  match st2 with
                  | 0 => rfl
                  | 1 => rfl
                  | _ + 2 => rfl
                | _ => rfl
          | _ + 1 => rfl
        | _ => rfl
    | _ => rfl
theorem roundAsg_normal (l : Nat) (body0 : ACode) (F : List AV) (H : Heap) : roundAsg R l body0 (some (.normal, ⟨F, H⟩)) = roundMid R l body0 ⟨F, H⟩ H[l]? := rfl
theorem roundMid_some (l : Nat) (body0 : ACode) (F : List AV) (H : Heap) (pend : Option AExit) (F1 : List AV) (ps : List Nat) (asg body : ACode) : roundMid R l body0 ⟨F, H⟩ (some (.loop 0 pend F1 ps asg body)) = roundBody l (run R body0 ⟨F, H.set l (.loop 1 pend F1 ps asg body)⟩) := rfl
theorem roundBody_some (l : Nat) (e : AExit) (F : List AV) (H : Heap) : roundBody l (some (e, ⟨F, H⟩)) = roundEnd l e H H[l]? := rfl
theorem roundBody_ite (l : Nat) {c : Prop} [Decidable c] (x y : Option (AExit × St)) : roundBody l (if c then x else y) = if c then roundBody l x else roundBody l y := by split <;> rfl
theorem roundEnd_normal (l : Nat) (H : Heap) (pend : Option AExit) (F : List AV) (ps : List Nat) (asg body : ACode) : roundEnd l .normal H (some (.loop 1 pend F ps asg body)) = some (.bool true, H.set l (.loop 0 none F ps asg body)) := rfl
theorem roundEnd_exit (l i : Nat) (H : Heap) (pend : Option AExit) (F : List AV) (ps : List Nat) (asg body : ACode) : roundEnd l (.exit i) H (some (.loop 1 pend F ps asg body)) = some (.bool false, H.set l (.loop 2 (some (.exit i)) F ps asg body)) := rfl
theorem roundEnd_ret (l : Nat) (H : Heap) (pend : Option AExit) (F : List AV) (ps : List Nat) (asg body : ACode) : roundEnd l .ret H (some (.loop 1 pend F ps asg body)) = some (.bool false, H.set l (.loop 2 (some .ret) F ps asg body)) := rfl
/-- what a range leaves by -/
def rangeOut (F : List AV) (l : Nat) (H : Heap) : Option Blk → Option (AExit × St)
  | some (.loop st pend _ _ _ _) => if st = 1 then none else some ((match pend with | none => .normal | some e => e), ⟨F, H.set l .dead⟩)
  | _ => none
theorem rangeEnd_some (l : Nat) (v : AV) (H : Heap) : rangeEnd F l (some (v, H)) = rangeOut F l H H[l]? := by
  simp only [rangeEnd, rangeOut]
theorem rangeOut_0 (l : Nat) (H : Heap) (F1 : List AV) (ps : List Nat) (asg body : ACode) : rangeOut F l H (some (.loop 0 none F1 ps asg body)) = some (.normal, ⟨F, H.set l .dead⟩) := rfl
theorem rangeOut_2 (l : Nat) (H : Heap) (e : AExit) (F1 : List AV) (ps : List Nat) (asg body : ACode) : rangeOut F l H (some (.loop 2 (some e) F1 ps asg body)) = some (e, ⟨F, H.set l .dead⟩) := rfl
end
/-! calls that leave blocks of the caller's own -/
section
variable {R : Rec} {F : List AV} {H : Heap} {s : St}
def ocallK : Option (AV × Heap) → Option (AV × List Blk)
  | some (r, H') => (compact H' r).map fun (v, B) => (v, B.map (·.2))
  | none => none
theorem ocallA_eq (f : Nat) (args : List AV) : ocallA R f args = ocallK (R.icall (.func f []) args []) := by
  unfold ocallA ocallK
  cases R.icall (.func f []) args [] <;> rfl
theorem ocallK_some (r : AV) (H' : Heap) : ocallK (some (r, H')) = (compact H' r).map fun (v, B) => (v, B.map (·.2)) := rfl
def ocK (H : Heap) (ids : List Nat) : Option (AV × List Blk) → Option (AV × Heap)
  | some (v, B) => some (liftV H.length v, fzIds H ids ++ B)
  | none => none
def ocArgK (R : Rec) (f : Nat) (H : Heap) (ids : List Nat) : Option (List AV) → Option (AV × Heap)
  | some args' => ocK H ids (ocallA R f args')
  | none => none
theorem ex_ocall (f : Nat) (args : List Arg) : execOpA R F H (.ocall f args) = ocArgK R f H ((args.map (opv F)).flatMap (bor frzN H)) ((args.map (opv F)).mapM (frz frzN H)) := by
  simp only [execOpA, ocArgK]
  cases (args.map (opv F)).mapM (frz frzN H) with
  | none => rfl
  | some args' =>
    simp only [ocK]
    cases ocallA R f args' <;> rfl
theorem ocArgK_some (f : Nat) (ids : List Nat) (args' : List AV) : ocArgK R f H ids (some args') = ocK H ids (ocallA R f args') := rfl
theorem ocK_some (ids : List Nat) (v : AV) (B : List Blk) : ocK H ids (some (v, B)) = some (liftV H.length v, fzIds H ids ++ B) := rfl

def ocwK (H : Heap) (ids : List Nat) : Option (AV × Heap) → Option (AV × Heap)
  | some (v, B) => some (liftV H.length v, fzIds H ids ++ B.map (liftB H.length))
  | none => none
def ocwArgK (R : Rec) (f : Nat) (H : Heap) (ids : List Nat) : Option (List AV) → Option (AV × Heap)
  | some args' => ocwK H ids (ocallW R f args')
  | none => none
theorem ex_ocallw (f : Nat) (args : List Arg) : execOpA R F H (.ocallw f args) = ocwArgK R f H ((args.map (opv F)).flatMap (bor frzN H)) ((args.map (opv F)).mapM (frz frzN H)) := by
  simp only [execOpA, ocwArgK]
  cases (args.map (opv F)).mapM (frz frzN H) with
  | none => rfl
  | some args' =>
    simp only [ocwK]
    cases ocallW R f args' <;> rfl
theorem ocwArgK_some (f : Nat) (ids : List Nat) (args' : List AV) : ocwArgK R f H ids (some args') = ocwK H ids (ocallW R f args') := rfl
theorem ocwK_some (ids : List Nat) (v : AV) (B : Heap) : ocwK H ids (some (v, B)) = some (liftV H.length v, fzIds H ids ++ B.map (liftB H.length)) := rfl
theorem ocallW_of {f : Nat} {args : List AV} {v : AV} {B : Heap} (h : R.icall (.func f []) args [] = some (v, B)) (h1 : relV v = true) : ocallW R f args = some (v, B) := by
  unfold ocallW
  rw [h]
  exact if_pos h1

def t1B (z : Bool) (id off n es : Nat) (B : List (Nat × Blk)) : Option Blk → Option (AV × List (Nat × Blk))
  | some (.cells false z' cs) => if cs.all data1 = true then some (.own z B.length off n es, B ++ [(id, .cells false z' cs)]) else none
  | _ => none
def t1I (z : Bool) (id off n es : Nat) (B : List (Nat × Blk)) (b : Option Blk) : Option Nat → Option (AV × List (Nat × Blk))
  | some k => some (.own z k off n es, B)
  | none => t1B z id off n es B b
theorem take1_own (H : Heap) (z : Bool) (id off n es : Nat) (B : List (Nat × Blk)) : take1 H (.own z id off n es) B = t1I z id off n es B H[id]? (B.findIdx? (fun p => p.1 == id)) := by
  simp only [take1, t1I]
  cases B.findIdx? (fun p => p.1 == id) with
  | some k => rfl
  | none =>
    simp only [t1B]
    cases H[id]? with
    | none => rfl
    | some b => cases b with
      | cells fz z' cs => cases fz <;> rfl
      | _ => rfl
theorem t1I_old (z : Bool) (id off n es : Nat) (B : List (Nat × Blk)) (b : Option Blk) (k : Nat) : t1I z id off n es B b (some k) = some (.own z k off n es, B) := rfl
theorem t1I_new (z : Bool) (id off n es : Nat) (B : List (Nat × Blk)) (z' : Bool) (cs : List AV) : t1I z id off n es B (some (.cells false z' cs)) none = if cs.all data1 = true then some (.own z B.length off n es, B ++ [(id, .cells false z' cs)]) else none := rfl
theorem take1_int (H : Heap) (k : IntKind) (n : Int) (B : List (Nat × Blk)) : take1 H (.int k n) B = some (.int k n, B) := rfl
theorem take1_bool (H : Heap) (b : Bool) (B : List (Nat × Blk)) : take1 H (.bool b) B = some (.bool b, B) := rfl
theorem take1_sl (H : Heap) (z : Bool) (n : Nat) (cs : List AV) (B : List (Nat × Blk)) : take1 H (.sl z n cs) B = some (.sl z n cs, B) := rfl
theorem take1_str (H : Heap) (b : ByteArray) (B : List (Nat × Blk)) : take1 H (.str b) B = some (.str b, B) := rfl
def tkL (H : Heap) (vs : List AV) : Option (AV × List (Nat × Blk)) → Option (List AV × List (Nat × Blk))
  | some (v', B') => (takeL H vs B').map fun (vs', B2) => (v' :: vs', B2)
  | none => none
theorem takeL_nil (H : Heap) (B : List (Nat × Blk)) : takeL H [] B = some ([], B) := rfl
theorem takeL_cons (H : Heap) (v : AV) (vs : List AV) (B : List (Nat × Blk)) : takeL H (v :: vs) B = tkL H vs (take1 H v B) := by
  simp only [takeL, tkL]
  cases take1 H v B <;> rfl
theorem tkL_some (H : Heap) (vs : List AV) (v' : AV) (B' : List (Nat × Blk)) : tkL H vs (some (v', B')) = (takeL H vs B').map fun (vs', B2) => (v' :: vs', B2) := rfl
theorem take2_agg (H : Heap) (cs : List AV) (B : List (Nat × Blk)) : take2 H (.agg cs) B = if cs.all AV.isCell = true then (takeL H cs B).map fun (cs', B') => (.agg cs', B') else none := rfl
theorem take2_own (H : Heap) (z : Bool) (id off n es : Nat) (B : List (Nat × Blk)) : take2 H (.own z id off n es) B = take1 H (.own z id off n es) B := rfl
theorem take2_int (H : Heap) (k : IntKind) (n : Int) (B : List (Nat × Blk)) : take2 H (.int k n) B = some (.int k n, B) := rfl
theorem take2_bool (H : Heap) (b : Bool) (B : List (Nat × Blk)) : take2 H (.bool b) B = some (.bool b, B) := rfl
theorem take2_sl (H : Heap) (z : Bool) (n : Nat) (cs : List AV) (B : List (Nat × Blk)) : take2 H (.sl z n cs) B = some (.sl z n cs, B) := rfl
def tkL2 (H : Heap) (vs : List AV) : Option (AV × List (Nat × Blk)) → Option (List AV × List (Nat × Blk))
  | some (v', B') => (takeL2 H vs B').map fun (vs', B2) => (v' :: vs', B2)
  | none => none
theorem takeL2_nil (H : Heap) (B : List (Nat × Blk)) : takeL2 H [] B = some ([], B) := rfl
theorem takeL2_cons (H : Heap) (v : AV) (vs : List AV) (B : List (Nat × Blk)) : takeL2 H (v :: vs) B = tkL2 H vs (take2 H v B) := by
  simp only [takeL2, tkL2]
  cases take2 H v B <;> rfl
theorem tkL2_some (H : Heap) (vs : List AV) (v' : AV) (B' : List (Nat × Blk)) : tkL2 H vs (some (v', B')) = (takeL2 H vs B').map fun (vs', B2) => (v' :: vs', B2) := rfl
theorem compact_tup (H : Heap) (vs : List AV) : compact H (.tup vs) = (takeL2 H vs []).map fun (vs', B) => (.tup vs', B) := rfl
theorem compact_agg (H : Heap) (cs : List AV) : compact H (.agg cs) = take2 H (.agg cs) [] := rfl
theorem compact_own (H : Heap) (z : Bool) (id off n es : Nat) : compact H (.own z id off n es) = take1 H (.own z id off n es) [] := rfl
theorem compact_sl (H : Heap) (z : Bool) (n : Nat) (cs : List AV) : compact H (.sl z n cs) = some (.sl z n cs, []) := rfl

theorem findI_nil {α : Type} (p : α → Bool) : ([] : List α).findIdx? p = none := rfl
theorem findI_cons {α : Type} (p : α → Bool) (a : α) (l : List α) : (a :: l).findIdx? p = if p a = true then some 0 else (l.findIdx? p).map (· + 1) := by
  rw [List.findIdx?_cons]

/-! drawn regions that lay blocks -/
def drawpK (R : Rec) (als : List (Nat × Nat)) (ls : List (Nat × Nat × Nat × Nat)) (m : Nat) (ops : List AOper) : Option (St × List Pr) → Option (AExit × St)
  | some (s, pl) => apartK ls (runOps R (ops.drop m) (adoptS als pl s))
  | none => none
theorem run_drawp (als : List (Nat × Nat)) (ls : List (Nat × Nat × Nat × Nat)) (m : Nat) (ops : List AOper) : run R (.drawp als ls m ops) s = drawpK R als ls m ops (runPriv R (ops.take m) s) := by
  simp only [run, drawpK]
  cases runPriv R (ops.take m) s with
  | none => rfl
  | some r =>
    obtain ⟨s1, pl⟩ := r
    simp only [apartK]
    cases runOps R (ops.drop m) (adoptS als pl s1) <;> rfl
theorem drawpK_some (als : List (Nat × Nat)) (ls : List (Nat × Nat × Nat × Nat)) (m : Nat) (ops : List AOper) (s : St) (pl : List Pr) : drawpK R als ls m ops (some (s, pl)) = apartK ls (runOps R (ops.drop m) (adoptS als pl s)) := rfl
theorem adoptS_nil (pl : List Pr) (s : St) : adoptS [] pl s = adoptL pl s := rfl
def alK (als : List (Nat × Nat)) : St → St
  | ⟨F, H⟩ => ⟨aliasL als F, H⟩
theorem adoptS_cons (p : Nat × Nat) (r : List (Nat × Nat)) (pl : List Pr) (s : St) : adoptS (p :: r) pl s = alK (p :: r) (adoptL pl s) := rfl
theorem alK_mk (als : List (Nat × Nat)) (F : List AV) (H : Heap) : alK als ⟨F, H⟩ = ⟨aliasL als F, H⟩ := rfl
theorem aliasL_nil (F : List AV) : aliasL [] F = F := rfl
theorem aliasL_cons (d q : Nat) (r : List (Nat × Nat)) (F : List AV) : aliasL ((d, q) :: r) F = aliasL r (F.set d (F.getD q .any)) := rfl
def consK (e : Pr) : Option (St × List Pr) → Option (St × List Pr)
  | some (s, l) => some (s, e :: l)
  | none => none
theorem consK_some (e : Pr) (s : St) (l : List Pr) : consK e (some (s, l)) = some (s, e :: l) := rfl
def priv1K (R : Rec) (rest : List AOper) (s : St) : Option Nat → Option (AV × List Blk) → Option (St × List Pr)
  | some t, some (v, B) => consK (some (t, v, B)) (runPriv R rest ⟨s.F.set t .any, s.H⟩)
  | _, _ => none
def free1K (R : Rec) (rest : List AOper) : Option St → Option (St × List Pr)
  | some s => consK none (runPriv R rest s)
  | none => none
theorem runPriv_nil : runPriv R [] s = some (s, []) := rfl
theorem runPriv_cons (o : AOper) (rest : List AOper) : runPriv R (o :: rest) s = if isPriv o.op = true then priv1K R rest s o.dst (privA R s.F o.op) else free1K R rest (freeOperA R o s) := by
  simp only [runPriv]
  split
  · cases o.dst with
    | none => rfl
    | some t => cases privA R s.F o.op with
      | none => rfl
      | some r =>
        obtain ⟨v, B⟩ := r
        simp only [priv1K]
        cases runPriv R rest ⟨s.F.set t .any, s.H⟩ <;> rfl
  · cases freeOperA R o s with
    | none => rfl
    | some s1 =>
      simp only [free1K]
      cases runPriv R rest s1 <;> rfl
theorem priv1K_some (rest : List AOper) (t : Nat) (v : AV) (B : List Blk) : priv1K R rest s (some t) (some (v, B)) = consK (some (t, v, B)) (runPriv R rest ⟨s.F.set t .any, s.H⟩) := rfl
theorem free1K_some (rest : List AOper) (s : St) : free1K R rest (some s) = consK none (runPriv R rest s) := rfl
def privK : Option (AV × Heap) → Option (AV × List Blk)
  | some (v, B) => if relV v = true ∧ allData B = true then some (v, B) else none
  | none => none
theorem privA_eq (op : AOp) : privA R F op = if op.args.all (fun x => dataV (opv F x)) = true then privK (execOpA R F [] op) else none := by
  unfold privA privK
  split
  · cases execOpA R F [] op <;> rfl
  · rfl
theorem privK_some (v : AV) (B : Heap) : privK (some (v, B)) = if relV v = true ∧ allData B = true then some (v, B) else none := rfl
theorem isPriv_ocall (f : Nat) (as : List Arg) : isPriv (.ocall f as) = true := rfl
theorem isPriv_box (x : Arg) : isPriv (.box x) = true := rfl
theorem isPriv_mksf (z : List AV) (b : Nat) (x y : Arg) : isPriv (.mkslice false z b x y) = true := rfl
theorem isPriv_mkst (z : List AV) (b : Nat) (x y : Arg) : isPriv (.mkslice true z b x y) = false := rfl
theorem isPriv_bslf (z : List AV) (es n : Nat) (ps : List (Nat × Arg)) : isPriv (.bslice false z es n ps) = true := rfl
theorem isPriv_bslt (z : List AV) (es n : Nat) (ps : List (Nat × Arg)) : isPriv (.bslice true z es n ps) = false := rfl
theorem isPriv_appf (es b : Nat) (x y : Arg) : isPriv (.append false es b x y) = true := rfl
theorem isPriv_appt (es b : Nat) (x y : Arg) : isPriv (.append true es b x y) = false := rfl
theorem isPriv_appz (z : List AV) (b : Nat) (x y : Arg) : isPriv (.appendz z b x y) = true := rfl
theorem isPriv_mov (x : Arg) : isPriv (.mov x) = false := rfl
theorem isPriv_pick (x y z : Arg) : isPriv (.pick x y z) = false := rfl
theorem isPriv_build (z : List AV) (ps : List (Nat × Nat × Arg)) : isPriv (.build z ps) = false := rfl
theorem isPriv_load (g : Bool) (n : Nat) (x : Arg) : isPriv (.load g n x) = false := rfl
theorem isPriv_nilchk (x : Arg) : isPriv (.nilchk x) = false := rfl
theorem isPriv_bin (op : BinOp) (x y : Arg) : isPriv (.bin op x y) = false := rfl
theorem isPriv_beq (g : Bool) (x y : Arg) : isPriv (.beq g x y) = false := rfl
theorem isPriv_isnil (g : Bool) (x : Arg) : isPriv (.isnil g x) = false := rfl
theorem isPriv_un (op : UnOp) (x : Arg) : isPriv (.un op x) = false := rfl
theorem isPriv_conv (k : IntKind) (x : Arg) : isPriv (.conv k x) = false := rfl
theorem isPriv_mkfunc (f : Nat) (as : List Arg) : isPriv (.mkfunc f as) = false := rfl
theorem isPriv_slice (es : Nat) (x : Arg) (a b c : Option Arg) : isPriv (.slice es x a b c) = false := rfl
theorem isPriv_faddr (o : Nat) (x : Arg) : isPriv (.faddr o x) = false := rfl
theorem isPriv_field (g : Bool) (o n : Nat) (x : Arg) : isPriv (.field g o n x) = false := rfl
theorem isPriv_iaddr (es : Nat) (x i : Arg) : isPriv (.iaddr es x i) = false := rfl
theorem isPriv_ext (i : Nat) (x : Arg) : isPriv (.ext i x) = false := rfl
theorem isPriv_len (x : Arg) : isPriv (.len x) = false := rfl
theorem isPriv_cap (x : Arg) : isPriv (.cap x) = false := rfl
theorem isPriv_aeq (g : Bool) (n : Nat) (x y : Arg) : isPriv (.aeq g n x y) = false := rfl
theorem isPriv_call (f : Nat) (as : List Arg) : isPriv (.call f as) = false := rfl
theorem isPriv_fcall (f : Arg) (as : List Arg) : isPriv (.fcall f as) = false := rfl
theorem isPriv_maxi (x y : Arg) : isPriv (.maxi x y) = false := rfl
theorem isPriv_mini (x y : Arg) : isPriv (.mini x y) = false := rfl
theorem allData_nil : allData [] = true := rfl
theorem allData_cons (z : Bool) (cs : List AV) (B : List Blk) : allData (.cells false z cs :: B) = (cs.all data1 && allData B) := rfl
theorem dat_map {α : Type} {f : α → AV} (h : ∀ a, data1 (f a) = true) (l : List α) : (l.map f).all data1 = true := by
  simp [List.all_eq_true, h]
end

/-! arrays and strings -/
section
variable {R : Rec} {F : List AV} {H : Heap}
def idxA (g : Bool) (es len : Nat) : AV → AV → Option AV
  | .agg cs, .int _ i => if 0 ≤ i ∧ i.toNat < len ∧ i.toNat * es + es ≤ cs.length then mkv g ((cs.drop (i.toNat * es)).take es) else none
  | _, _ => none
theorem idxA_agg {g : Bool} {es len : Nat} {cs : List AV} {k : IntKind} {i : Int} (h0 : 0 ≤ i) (h : i < len) (h2 : i.toNat * es + es ≤ cs.length) : idxA g es len (.agg cs) (.int k i) = mkv g ((cs.drop (i.toNat * es)).take es) := if_pos ⟨h0, by omega, h2⟩
theorem ex_idx (g : Bool) (es len : Nat) (x i : Arg) : execOpA R F H (.idx g es len x i) = valK H (idxA g es len (opv F x) (opv F i)) := by
  simp only [execOpA]
  cases opv F x with
  | agg cs => cases opv F i with
    | int k n =>
      by_cases h0 : 0 ≤ n
      · have e : natOf (.int k n) = some n.toNat := by simp [natOf, h0]
        simp only [e, idxA, h0, true_and]
        by_cases c : n.toNat < len ∧ n.toNat * es + es ≤ cs.length
        · rw [if_pos c, if_pos c]
          cases mkv g ((cs.drop (n.toNat * es)).take es) <;> rfl
        · rw [if_neg c, if_neg c]; rfl
      · have e : natOf (.int k n) = none := by simp [natOf, h0]
        simp only [e, idxA, h0, false_and, if_false, valK]
    | _ => rfl
  | _ => rfl
def arratA (es len : Nat) : AV → AV → Option AV
  | .ptr id off, .int _ i => if 0 ≤ i ∧ i.toNat < len then some (.ptr id (off + i.toNat * es)) else none
  | .vptr cs off, .int _ i => if 0 ≤ i ∧ i.toNat < len then some (.vptr cs (off + i.toNat * es)) else none
  | _, _ => none
theorem arratA_ptr {es len id off : Nat} {k : IntKind} {i : Int} (h0 : 0 ≤ i) (h : i < len) : arratA es len (.ptr id off) (.int k i) = some (.ptr id (off + i.toNat * es)) := if_pos ⟨h0, by omega⟩
theorem arratA_vptr {es len off : Nat} {cs : List AV} {k : IntKind} {i : Int} (h0 : 0 ≤ i) (h : i < len) : arratA es len (.vptr cs off) (.int k i) = some (.vptr cs (off + i.toNat * es)) := if_pos ⟨h0, by omega⟩
theorem ex_arrat (es len : Nat) (x i : Arg) : execOpA R F H (.arrat es len x i) = valK H (arratA es len (opv F x) (opv F i)) := by
  simp only [execOpA]
  cases opv F x with
  | ptr id off => cases opv F i with
    | int k n =>
      by_cases h0 : 0 ≤ n
      · have e : natOf (.int k n) = some n.toNat := by simp [natOf, h0]
        simp only [e, arratA, h0, true_and]
        by_cases c : n.toNat < len
        · rw [if_pos c, if_pos c]; rfl
        · rw [if_neg c, if_neg c]; rfl
      · have e : natOf (.int k n) = none := by simp [natOf, h0]
        simp only [e, arratA, h0, false_and, if_false, valK]
    | _ => rfl
  | vptr cs off => cases opv F i with
    | int k n =>
      by_cases h0 : 0 ≤ n
      · have e : natOf (.int k n) = some n.toNat := by simp [natOf, h0]
        simp only [e, arratA, h0, true_and]
        by_cases c : n.toNat < len
        · rw [if_pos c, if_pos c]; rfl
        · rw [if_neg c, if_neg c]; rfl
      · have e : natOf (.int k n) = none := by simp [natOf, h0]
        simp only [e, arratA, h0, false_and, if_false, valK]
    | _ => rfl
  | _ => rfl
def garrA (es len : Nat) : Option (List AV) → AV → Option AV
  | some cs, .int _ i => if 0 ≤ i ∧ i.toNat < len then some (.vptr cs (i.toNat * es)) else none
  | _, _ => none
theorem garrA_some {es len : Nat} {cs : List AV} {k : IntKind} {i : Int} (h0 : 0 ≤ i) (h : i < len) : garrA es len (some cs) (.int k i) = some (.vptr cs (i.toNat * es)) := if_pos ⟨h0, by omega⟩
theorem ex_garr (b es len : Nat) (i : Arg) : execOpA R F H (.garr b es len i) = valK H (garrA es len (globs b) (opv F i)) := by
  simp only [execOpA]
  cases globs b with
  | none => rfl
  | some cs => cases opv F i with
    | int k n =>
      by_cases h0 : 0 ≤ n
      · have e : natOf (.int k n) = some n.toNat := by simp [natOf, h0]
        simp only [e, garrA, h0, true_and]
        by_cases c : n.toNat < len
        · rw [if_pos c, if_pos c]; rfl
        · rw [if_neg c, if_neg c]; rfl
      · have e : natOf (.int k n) = none := by simp [natOf, h0]
        simp only [e, garrA, h0, false_and, if_false, valK]
    | _ => rfl
def slenA : AV → Option AV
  | .str s => some (.int .i64 s.size)
  | _ => none
theorem slenA_str (s : ByteArray) : slenA (.str s) = some (.int .i64 s.size) := rfl
theorem ex_slen (x : Arg) : execOpA R F H (.slen x) = valK H (slenA (opv F x)) := by
  simp only [execOpA]
  cases opv F x <;> rfl
theorem fe_idx (g : Bool) (es len : Nat) (x i : Arg) : freeEx R F H (.idx g es len x i) = fstK H (execOpA R F H (.idx g es len x i)) := fe_of _ rfl
theorem fe_arrat (es len : Nat) (x i : Arg) : freeEx R F H (.arrat es len x i) = fstK H (execOpA R F H (.arrat es len x i)) := fe_of _ rfl
theorem fe_garr (b es len : Nat) (i : Arg) : freeEx R F H (.garr b es len i) = fstK H (execOpA R F H (.garr b es len i)) := fe_of _ rfl
theorem ex_mm (mx : Bool) (x : Arg) (xs : List Arg) : execOpA R F H (.mm mx (x :: xs)) = valK H (mmA mx (opv F x) (xs.map (opv F))) := by
  simp only [execOpA, List.map_cons, valK]
  cases mmA mx (opv F x) (xs.map (opv F)) <;> rfl
theorem mmA_nil (mx : Bool) (k : IntKind) (a : Int) : mmA mx (.int k a) [] = some (.int k a) := rfl
theorem mmA_min (k k' : IntKind) (a b : Int) (r : List AV) : mmA false (.int k a) (.int k' b :: r) = mmA false (.int k (min a b)) r := by
  simp only [mmA, Bool.false_eq_true, if_false]
  congr 2; split <;> omega
theorem mmA_max (k k' : IntKind) (a b : Int) (r : List AV) : mmA true (.int k a) (.int k' b :: r) = mmA true (.int k (max a b)) r := by
  simp only [mmA, if_true]
  congr 2; split <;> omega
theorem fe_mm (mx : Bool) (xs : List Arg) : freeEx R F H (.mm mx xs) = fstK H (execOpA R F H (.mm mx xs)) := fe_of _ rfl
theorem isPriv_mm (mx : Bool) (xs : List Arg) : isPriv (.mm mx xs) = false := rfl
theorem fe_slen (x : Arg) : freeEx R F H (.slen x) = fstK H (execOpA R F H (.slen x)) := fe_of _ rfl
end
end Go.Abs
