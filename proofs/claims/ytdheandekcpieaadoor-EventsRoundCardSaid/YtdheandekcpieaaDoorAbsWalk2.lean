/- The walk's words for maps,strings and rows of bytes. -/
import Derived.Test.YtdheandekcpieaaDoorAbsWalk
namespace Go.Abs
set_option linter.unusedVariables false
set_option linter.unusedSimpArgs false
section
variable {R : Rec} {F : List AV} {H : Heap}
theorem xP2 : xAa R F H .mkmap = some (.mp H.length,H ++ [.mp []]) := rfl
def xVG (c : Bool) (z : AV) (H : Heap) : Option (Option AV) → Option (AV × Heap)
 | none => none
 | some none => some (if c then .tup [z,.bool false] else z,H)
 | some (some v) => some (if c then .tup [v,.bool true] else v,H)
def xYa (c : Bool) (z k : AV) (H : Heap) : Option (List (AV × AV)) → Option (AV × Heap)
 | none => none
 | some es => xVG c z H (xKV k es)
theorem xJX (c : Bool) (z k : AV) (es : List (AV × AV)) : xYa c z k H (some es) = xVG c z H (xKV k es) := rfl
theorem xMY (c : Bool) (z v : AV) : xVG c z H (some (some v)) = some (if c then .tup [v,.bool true] else v,H) := rfl
theorem xP3 (ks : List Nat) (c : Bool) (z : AV) (x k : Arg) : xAa R F H (.mlook ks c z x k) = if xBR ks (opv F k) = true then xYa c z (opv F k) H (xWC H (opv F x)) else none := by
 simp only [xAa]
 split
 ·cases xWC H (opv F x) with
  | none => rfl
  | some es =>
   simp only [xYa]
   rcases xKV (opv F k) es with _ | _ | v <;> simp only [xVG]
 ·rfl
def xYb : Option Blk → Option (List (AV × AV))
 | some (.mp es) => some es
 | _ => none
theorem xTo (id : Nat) : xWC H (.mp id) = xYb H[id]? := by
 simp only [xWC,xYb]
 split <;> rename_i h <;> simp [h]
theorem xIl (es : List (AV × AV)) : xYb (some (.mp es)) = some es := rfl
theorem xJY (k : IntKind) (n : Int) : xBR [0] (.int k n) = true := rfl
def yBF (H : Heap) (id : Nat) : Option (List (AV × AV)) → Option (AV × Heap)
 | some es => some (.tup [],H.set id (.mp es))
 | none => none
theorem xMZ (id : Nat) (es : List (AV × AV)) : yBF H id (some es) = some (.tup [],H.set id (.mp es)) := rfl
def yBG (H : Heap) (k v : AV) (id : Nat) : Option (List (AV × AV)) → Option (AV × Heap)
 | some es => yBF H id (xWB k v es)
 | none => none
theorem xIm (k v : AV) (id : Nat) (es : List (AV × AV)) : yBG H k v id (some es) = yBF H id (xWB k v es) := rfl
def yBH (H : Heap) (k v : AV) : AV → Option (AV × Heap)
 | .mp id => yBG H k v id (xYb H[id]?)
 | _ => none
theorem xTp (k v : AV) (id : Nat) : yBH H k v (.mp id) = yBG H k v id (xYb H[id]?) := rfl
theorem xTq (ks : List Nat) (m k v : Arg) : xAa R F H (.mupd ks m k v) = if xBR ks (opv F k) = true then yBH H (opv F k) (opv F v) (opv F m) else none := by
 simp only [xAa]
 split
 ·cases opv F m <;> simp only [yBH]
  rename_i id
  split
  ·rename_i es h
   rw [h,xIl,xIm]
   cases xWB (opv F k) (opv F v) es <;> rfl
  ·rename_i h
   have : xYb H[id]? = none := by
    unfold xYb
    split
    ·rename_i es he; exact absurd he (h es)
    ·rfl
   rw [this]; rfl
 ·rfl
end
end Go.Abs
