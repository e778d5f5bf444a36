/- The walk's words for maps,strings and rows of bytes. -/
import Derived.Test.YtdheandekcpieaaGreatDoorAbsWalk
namespace Go.Abs
set_option linter.unusedVariables false
set_option linter.unusedSimpArgs false
section
variable {R : Rec} {F : List AV} {H : Heap}
theorem xQn : xAc R F H .mkmap = some (.mp H.length,H ++ [.mp []]) := rfl
def xW6 (c : Bool) (z : AV) (H : Heap) : Option (Option AV) → Option (AV × Heap)
 | none => none
 | some none => some (if c then .tup [z,.bool false] else z,H)
 | some (some v) => some (if c then .tup [v,.bool true] else v,H)
def yAx (c : Bool) (z k : AV) (H : Heap) : Option (List (AV × AV)) → Option (AV × Heap)
 | none => none
 | some es => xW6 c z H (xIg k es)
theorem xKa (c : Bool) (z k : AV) (es : List (AV × AV)) : yAx c z k H (some es) = xW6 c z H (xIg k es) := rfl
theorem xNm (c : Bool) (z v : AV) : xW6 c z H (some (some v)) = some (if c then .tup [v,.bool true] else v,H) := rfl
theorem xQo (ks : List Nat) (c : Bool) (z : AV) (x k : Arg) : xAc R F H (.mlook ks c z x k) = if xBz ks (opv F k) = true then yAx c z (opv F k) H (xVq H (opv F x)) else none := by
 simp only [xAc]
 split
 ·cases xVq H (opv F x) with
  | none => rfl
  | some es =>
   simp only [yAx]
   rcases xIg (opv F k) es with _ | _ | v <;> simp only [xW6]
 ·rfl
def yAy : Option Blk → Option (List (AV × AV))
 | some (.mp es) => some es
 | _ => none
theorem xUZ (id : Nat) : xVq H (.mp id) = yAy H[id]? := by
 simp only [xVq,yAy]
 split <;> rename_i h <;> simp [h]
theorem xIa (es : List (AV × AV)) : yAy (some (.mp es)) = some es := rfl
theorem xKb (k : IntKind) (n : Int) : xBz [0] (.int k n) = true := rfl
def yEH (H : Heap) (id : Nat) : Option (List (AV × AV)) → Option (AV × Heap)
 | some es => some (.tup [],H.set id (.mp es))
 | none => none
theorem xNn (id : Nat) (es : List (AV × AV)) : yEH H id (some es) = some (.tup [],H.set id (.mp es)) := rfl
def yEI (H : Heap) (k v : AV) (id : Nat) : Option (List (AV × AV)) → Option (AV × Heap)
 | some es => yEH H id (xVU k v es)
 | none => none
theorem xIb (k v : AV) (id : Nat) (es : List (AV × AV)) : yEI H k v id (some es) = yEH H id (xVU k v es) := rfl
def yEJ (H : Heap) (k v : AV) : AV → Option (AV × Heap)
 | .mp id => yEI H k v id (yAy H[id]?)
 | _ => none
theorem xU0 (k v : AV) (id : Nat) : yEJ H k v (.mp id) = yEI H k v id (yAy H[id]?) := rfl
theorem xU1 (ks : List Nat) (m k v : Arg) : xAc R F H (.mupd ks m k v) = if xBz ks (opv F k) = true then yEJ H (opv F k) (opv F v) (opv F m) else none := by
 simp only [xAc]
 split
 ·cases opv F m <;> simp only [yEJ]
  rename_i id
  split
  ·rename_i es h
   rw [h,xIa,xIb]
   cases xVU (opv F k) (opv F v) es <;> rfl
  ·rename_i h
   have : yAy H[id]? = none := by
    unfold yAy
    split
    ·rename_i es he; exact absurd he (h es)
    ·rfl
   rw [this]; rfl
 ·rfl
end
end Go.Abs
