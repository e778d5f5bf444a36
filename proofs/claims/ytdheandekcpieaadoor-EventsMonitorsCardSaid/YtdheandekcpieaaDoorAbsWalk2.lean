/- The walk's words for maps,strings and rows of bytes. -/
import Derived.Test.YtdheandekcpieaaDoorAbsWalk
namespace Go.Abs
set_option linter.unusedVariables false
set_option linter.unusedSimpArgs false
section
variable {R : Rec} {F : List AV} {H : Heap}
theorem xRE : xAa R F H .mkmap = some (.mp H.length,H ++ [.mp []]) := rfl
def xX1 (c : Bool) (z : AV) (H : Heap) : Option (Option AV) → Option (AV × Heap)
 | none => none
 | some none => some (if c then .tup [z,.bool false] else z,H)
 | some (some v) => some (if c then .tup [v,.bool true] else v,H)
def yBi (c : Bool) (z k : AV) (H : Heap) : Option (List (AV × AV)) → Option (AV × Heap)
 | none => none
 | some es => xX1 c z H (xJl k es)
theorem xLk (c : Bool) (z k : AV) (es : List (AV × AV)) : yBi c z k H (some es) = xX1 c z H (xJl k es) := rfl
theorem xOw (c : Bool) (z v : AV) : xX1 c z H (some (some v)) = some (if c then .tup [v,.bool true] else v,H) := rfl
theorem xRF (ks : List Nat) (c : Bool) (z : AV) (x k : Arg) : xAa R F H (.mlook ks c z x k) = if xBD ks (opv F k) = true then yBi c z (opv F k) H (xWu H (opv F x)) else none := by
 simp only [xAa]
 split
 ·cases xWu H (opv F x) with
  | none => rfl
  | some es =>
   simp only [yBi]
   rcases xJl (opv F k) es with _ | _ | v <;> simp only [xX1]
 ·rfl
def yBj : Option Blk → Option (List (AV × AV))
 | some (.mp es) => some es
 | _ => none
theorem xWh (id : Nat) : xWu H (.mp id) = yBj H[id]? := by
 simp only [xWu,yBj]
 split <;> rename_i h <;> simp [h]
theorem xJf (es : List (AV × AV)) : yBj (some (.mp es)) = some es := rfl
theorem xLl (k : IntKind) (n : Int) : xBD [0] (.int k n) = true := rfl
def yFl (H : Heap) (id : Nat) : Option (List (AV × AV)) → Option (AV × Heap)
 | some es => some (.tup [],H.set id (.mp es))
 | none => none
theorem xOx (id : Nat) (es : List (AV × AV)) : yFl H id (some es) = some (.tup [],H.set id (.mp es)) := rfl
def yFm (H : Heap) (k v : AV) (id : Nat) : Option (List (AV × AV)) → Option (AV × Heap)
 | some es => yFl H id (xWZ k v es)
 | none => none
theorem xJg (k v : AV) (id : Nat) (es : List (AV × AV)) : yFm H k v id (some es) = yFl H id (xWZ k v es) := rfl
def yFn (H : Heap) (k v : AV) : AV → Option (AV × Heap)
 | .mp id => yFm H k v id (yBj H[id]?)
 | _ => none
theorem xWi (k v : AV) (id : Nat) : yFn H k v (.mp id) = yFm H k v id (yBj H[id]?) := rfl
theorem xWj (ks : List Nat) (m k v : Arg) : xAa R F H (.mupd ks m k v) = if xBD ks (opv F k) = true then yFn H (opv F k) (opv F v) (opv F m) else none := by
 simp only [xAa]
 split
 ·cases opv F m <;> simp only [yFn]
  rename_i id
  split
  ·rename_i es h
   rw [h,xJf,xJg]
   cases xWZ (opv F k) (opv F v) es <;> rfl
  ·rename_i h
   have : yBj H[id]? = none := by
    unfold yBj
    split
    ·rename_i es he; exact absurd he (h es)
    ·rfl
   rw [this]; rfl
 ·rfl
end
end Go.Abs
