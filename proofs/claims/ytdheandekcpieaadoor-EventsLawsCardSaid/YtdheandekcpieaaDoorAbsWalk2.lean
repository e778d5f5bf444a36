/- The walk's words for maps,strings and rows of bytes. -/
import Derived.Test.YtdheandekcpieaaDoorAbsWalk
namespace Go.Abs
set_option linter.unusedVariables false
set_option linter.unusedSimpArgs false
section
variable {R : Rec} {F : List AV} {H : Heap}
theorem xQz : xAa R F H .mkmap = some (.mp H.length,H ++ [.mp []]) := rfl
def xWT (c : Bool) (z : AV) (H : Heap) : Option (Option AV) → Option (AV × Heap)
 | none => none
 | some none => some (if c then .tup [z,.bool false] else z,H)
 | some (some v) => some (if c then .tup [v,.bool true] else v,H)
def xZU (c : Bool) (z k : AV) (H : Heap) : Option (List (AV × AV)) → Option (AV × Heap)
 | none => none
 | some es => xWT c z H (xI8 k es)
theorem xKG (c : Bool) (z k : AV) (es : List (AV × AV)) : xZU c z k H (some es) = xWT c z H (xI8 k es) := rfl
theorem xNM (c : Bool) (z v : AV) : xWT c z H (some (some v)) = some (if c then .tup [v,.bool true] else v,H) := rfl
theorem xQA (ks : List Nat) (c : Bool) (z : AV) (x k : Arg) : xAa R F H (.mlook ks c z x k) = if xBA ks (opv F k) = true then xZU c z (opv F k) H (xVz H (opv F x)) else none := by
 simp only [xAa]
 split
 ·cases xVz H (opv F x) with
  | none => rfl
  | some es =>
   simp only [xZU]
   rcases xI8 (opv F k) es with _ | _ | v <;> simp only [xWT]
 ·rfl
def xZV : Option Blk → Option (List (AV × AV))
 | some (.mp es) => some es
 | _ => none
theorem xUJ (id : Nat) : xVz H (.mp id) = xZV H[id]? := by
 simp only [xVz,xZV]
 split <;> rename_i h <;> simp [h]
theorem xIV (es : List (AV × AV)) : xZV (some (.mp es)) = some es := rfl
theorem xKH (k : IntKind) (n : Int) : xBA [0] (.int k n) = true := rfl
def yEE (H : Heap) (id : Nat) : Option (List (AV × AV)) → Option (AV × Heap)
 | some es => some (.tup [],H.set id (.mp es))
 | none => none
theorem xNN (id : Nat) (es : List (AV × AV)) : yEE H id (some es) = some (.tup [],H.set id (.mp es)) := rfl
def yEF (H : Heap) (k v : AV) (id : Nat) : Option (List (AV × AV)) → Option (AV × Heap)
 | some es => yEE H id (xV3 k v es)
 | none => none
theorem xIW (k v : AV) (id : Nat) (es : List (AV × AV)) : yEF H k v id (some es) = yEE H id (xV3 k v es) := rfl
def yEG (H : Heap) (k v : AV) : AV → Option (AV × Heap)
 | .mp id => yEF H k v id (xZV H[id]?)
 | _ => none
theorem xUK (k v : AV) (id : Nat) : yEG H k v (.mp id) = yEF H k v id (xZV H[id]?) := rfl
theorem xUL (ks : List Nat) (m k v : Arg) : xAa R F H (.mupd ks m k v) = if xBA ks (opv F k) = true then yEG H (opv F k) (opv F v) (opv F m) else none := by
 simp only [xAa]
 split
 ·cases opv F m <;> simp only [yEG]
  rename_i id
  split
  ·rename_i es h
   rw [h,xIV,xIW]
   cases xV3 (opv F k) (opv F v) es <;> rfl
  ·rename_i h
   have : xZV H[id]? = none := by
    unfold xZV
    split
    ·rename_i es he; exact absurd he (h es)
    ·rfl
   rw [this]; rfl
 ·rfl
end
end Go.Abs
