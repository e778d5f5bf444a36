/- The walk's words for maps,strings and rows of bytes. -/
import Derived.Test.YtdheandekcpieaaDoorAbsWalk
namespace Go.Abs
set_option linter.unusedVariables false
set_option linter.unusedSimpArgs false
section
variable {R : Rec} {F : List AV} {H : Heap}
theorem xPt : xAa R F H .mkmap = some (.mp H.length,H ++ [.mp []]) := rfl
def xVq (c : Bool) (z : AV) (H : Heap) : Option (Option AV) → Option (AV × Heap)
 | none => none
 | some none => some (if c then .tup [z,.bool false] else z,H)
 | some (some v) => some (if c then .tup [v,.bool true] else v,H)
def xYs (c : Bool) (z k : AV) (H : Heap) : Option (List (AV × AV)) → Option (AV × Heap)
 | none => none
 | some es => xVq c z H (xH2 k es)
theorem xJy (c : Bool) (z k : AV) (es : List (AV × AV)) : xYs c z k H (some es) = xVq c z H (xH2 k es) := rfl
theorem xMv (c : Bool) (z v : AV) : xVq c z H (some (some v)) = some (if c then .tup [v,.bool true] else v,H) := rfl
theorem xPu (ks : List Nat) (c : Bool) (z : AV) (x k : Arg) : xAa R F H (.mlook ks c z x k) = if xBl ks (opv F k) = true then xYs c z (opv F k) H (xT0 H (opv F x)) else none := by
 simp only [xAa]
 split
 ·cases xT0 H (opv F x) with
  | none => rfl
  | some es =>
   simp only [xYs]
   rcases xH2 (opv F k) es with _ | _ | v <;> simp only [xVq]
 ·rfl
def xYt : Option Blk → Option (List (AV × AV))
 | some (.mp es) => some es
 | _ => none
theorem xTP (id : Nat) : xT0 H (.mp id) = xYt H[id]? := by
 simp only [xT0,xYt]
 split <;> rename_i h <;> simp [h]
theorem xHY (es : List (AV × AV)) : xYt (some (.mp es)) = some es := rfl
theorem xJz (k : IntKind) (n : Int) : xBl [0] (.int k n) = true := rfl
def yCc (H : Heap) (id : Nat) : Option (List (AV × AV)) → Option (AV × Heap)
 | some es => some (.tup [],H.set id (.mp es))
 | none => none
theorem xMw (id : Nat) (es : List (AV × AV)) : yCc H id (some es) = some (.tup [],H.set id (.mp es)) := rfl
def yCd (H : Heap) (k v : AV) (id : Nat) : Option (List (AV × AV)) → Option (AV × Heap)
 | some es => yCc H id (xUt k v es)
 | none => none
theorem xHZ (k v : AV) (id : Nat) (es : List (AV × AV)) : yCd H k v id (some es) = yCc H id (xUt k v es) := rfl
def yCe (H : Heap) (k v : AV) : AV → Option (AV × Heap)
 | .mp id => yCd H k v id (xYt H[id]?)
 | _ => none
theorem xTQ (k v : AV) (id : Nat) : yCe H k v (.mp id) = yCd H k v id (xYt H[id]?) := rfl
theorem xTR (ks : List Nat) (m k v : Arg) : xAa R F H (.mupd ks m k v) = if xBl ks (opv F k) = true then yCe H (opv F k) (opv F v) (opv F m) else none := by
 simp only [xAa]
 split
 ·cases opv F m <;> simp only [yCe]
  rename_i id
  split
  ·rename_i es h
   rw [h,xHY,xHZ]
   cases xUt (opv F k) (opv F v) es <;> rfl
  ·rename_i h
   have : xYt H[id]? = none := by
    unfold xYt
    split
    ·rename_i es he; exact absurd he (h es)
    ·rfl
   rw [this]; rfl
 ·rfl
end
end Go.Abs
