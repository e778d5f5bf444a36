/- The walk's words for maps,strings and rows of bytes. -/
import Derived.Test.YtdheandekcpieaaDoorAbsWalk
namespace Go.Abs
set_option linter.unusedVariables false
set_option linter.unusedSimpArgs false
section
variable {R : Rec} {F : List AV} {H : Heap}
theorem xPk : xAb R F H .mkmap = some (.mp H.length,H ++ [.mp []]) := rfl
def xVc (c : Bool) (z : AV) (H : Heap) : Option (Option AV) → Option (AV × Heap)
 | none => none
 | some none => some (if c then .tup [z,.bool false] else z,H)
 | some (some v) => some (if c then .tup [v,.bool true] else v,H)
def xXJ (c : Bool) (z k : AV) (H : Heap) : Option (List (AV × AV)) → Option (AV × Heap)
 | none => none
 | some es => xVc c z H (xKq k es)
theorem xJl (c : Bool) (z k : AV) (es : List (AV × AV)) : xXJ c z k H (some es) = xVc c z H (xKq k es) := rfl
theorem xMs (c : Bool) (z v : AV) : xVc c z H (some (some v)) = some (if c then .tup [v,.bool true] else v,H) := rfl
theorem xPl (ks : List Nat) (c : Bool) (z : AV) (x k : Arg) : xAb R F H (.mlook ks c z x k) = if xBJ ks (opv F k) = true then xXJ c z (opv F k) H (xWe H (opv F x)) else none := by
 simp only [xAb]
 split
 ·cases xWe H (opv F x) with
  | none => rfl
  | some es =>
   simp only [xXJ]
   rcases xKq (opv F k) es with _ | _ | v <;> simp only [xVc]
 ·rfl
def xXK : Option Blk → Option (List (AV × AV))
 | some (.mp es) => some es
 | _ => none
theorem xSK (id : Nat) : xWe H (.mp id) = xXK H[id]? := by
 simp only [xWe,xXK]
 split <;> rename_i h <;> simp [h]
theorem xHH (es : List (AV × AV)) : xXK (some (.mp es)) = some es := rfl
theorem xJm (k : IntKind) (n : Int) : xBJ [0] (.int k n) = true := rfl
def yBS (H : Heap) (id : Nat) : Option (List (AV × AV)) → Option (AV × Heap)
 | some es => some (.tup [],H.set id (.mp es))
 | none => none
theorem xMt (id : Nat) (es : List (AV × AV)) : yBS H id (some es) = some (.tup [],H.set id (.mp es)) := rfl
def yBT (H : Heap) (k v : AV) (id : Nat) : Option (List (AV × AV)) → Option (AV × Heap)
 | some es => yBS H id (xWd k v es)
 | none => none
theorem xHI (k v : AV) (id : Nat) (es : List (AV × AV)) : yBT H k v id (some es) = yBS H id (xWd k v es) := rfl
def yBU (H : Heap) (k v : AV) : AV → Option (AV × Heap)
 | .mp id => yBT H k v id (xXK H[id]?)
 | _ => none
theorem xSL (k v : AV) (id : Nat) : yBU H k v (.mp id) = yBT H k v id (xXK H[id]?) := rfl
theorem xSM (ks : List Nat) (m k v : Arg) : xAb R F H (.mupd ks m k v) = if xBJ ks (opv F k) = true then yBU H (opv F k) (opv F v) (opv F m) else none := by
 simp only [xAb]
 split
 ·cases opv F m <;> simp only [yBU]
  rename_i id
  split
  ·rename_i es h
   rw [h,xHH,xHI]
   cases xWd (opv F k) (opv F v) es <;> rfl
  ·rename_i h
   have : xXK H[id]? = none := by
    unfold xXK
    split
    ·rename_i es he; exact absurd he (h es)
    ·rfl
   rw [this]; rfl
 ·rfl
end
end Go.Abs
