/- The walk's words for maps,strings and rows of bytes. -/
import Derived.Test.YtdheandekcpieaaDoorAbsWalk
namespace Go.Abs
set_option linter.unusedVariables false
set_option linter.unusedSimpArgs false
section
variable {R : Rec} {F : List AV} {H : Heap}
theorem xQg : xAa R F H .mkmap = some (.mp H.length,H ++ [.mp []]) := rfl
def xWi (c : Bool) (z : AV) (H : Heap) : Option (Option AV) → Option (AV × Heap)
 | none => none
 | some none => some (if c then .tup [z,.bool false] else z,H)
 | some (some v) => some (if c then .tup [v,.bool true] else v,H)
def xY1 (c : Bool) (z k : AV) (H : Heap) : Option (List (AV × AV)) → Option (AV × Heap)
 | none => none
 | some es => xWi c z H (xIs k es)
theorem xKf (c : Bool) (z k : AV) (es : List (AV × AV)) : xY1 c z k H (some es) = xWi c z H (xIs k es) := rfl
theorem xNr (c : Bool) (z v : AV) : xWi c z H (some (some v)) = some (if c then .tup [v,.bool true] else v,H) := rfl
theorem xQh (ks : List Nat) (c : Bool) (z : AV) (x k : Arg) : xAa R F H (.mlook ks c z x k) = if xBw ks (opv F k) = true then xY1 c z (opv F k) H (xVe H (opv F x)) else none := by
 simp only [xAa]
 split
 ·cases xVe H (opv F x) with
  | none => rfl
  | some es =>
   simp only [xY1]
   rcases xIs (opv F k) es with _ | _ | v <;> simp only [xWi]
 ·rfl
def xY2 : Option Blk → Option (List (AV × AV))
 | some (.mp es) => some es
 | _ => none
theorem xUG (id : Nat) : xVe H (.mp id) = xY2 H[id]? := by
 simp only [xVe,xY2]
 split <;> rename_i h <;> simp [h]
theorem xIh (es : List (AV × AV)) : xY2 (some (.mp es)) = some es := rfl
theorem xKg (k : IntKind) (n : Int) : xBw [0] (.int k n) = true := rfl
def yC3 (H : Heap) (id : Nat) : Option (List (AV × AV)) → Option (AV × Heap)
 | some es => some (.tup [],H.set id (.mp es))
 | none => none
theorem xNs (id : Nat) (es : List (AV × AV)) : yC3 H id (some es) = some (.tup [],H.set id (.mp es)) := rfl
def yC4 (H : Heap) (k v : AV) (id : Nat) : Option (List (AV × AV)) → Option (AV × Heap)
 | some es => yC3 H id (xVH k v es)
 | none => none
theorem xIi (k v : AV) (id : Nat) (es : List (AV × AV)) : yC4 H k v id (some es) = yC3 H id (xVH k v es) := rfl
def yC5 (H : Heap) (k v : AV) : AV → Option (AV × Heap)
 | .mp id => yC4 H k v id (xY2 H[id]?)
 | _ => none
theorem xUH (k v : AV) (id : Nat) : yC5 H k v (.mp id) = yC4 H k v id (xY2 H[id]?) := rfl
theorem xUI (ks : List Nat) (m k v : Arg) : xAa R F H (.mupd ks m k v) = if xBw ks (opv F k) = true then yC5 H (opv F k) (opv F v) (opv F m) else none := by
 simp only [xAa]
 split
 ·cases opv F m <;> simp only [yC5]
  rename_i id
  split
  ·rename_i es h
   rw [h,xIh,xIi]
   cases xVH (opv F k) (opv F v) es <;> rfl
  ·rename_i h
   have : xY2 H[id]? = none := by
    unfold xY2
    split
    ·rename_i es he; exact absurd he (h es)
    ·rfl
   rw [this]; rfl
 ·rfl
def xY3 (H : Heap) : Option (List UInt8) → Option (AV × Heap)
 | some bs => some (.str ⟨⟨bs⟩⟩,H)
 | none => none
theorem xKh (bs : List UInt8) : xY3 H (some bs) = some (.str ⟨⟨bs⟩⟩,H) := rfl
def yBa (H : Heap) : Option (Nat × List AV) → Option (AV × Heap)
 | some (_,cs) => xY3 H (xIt cs)
 | none => none
theorem xFW (n : Nat) (cs : List AV) : yBa H (some (n,cs)) = xY3 H (xIt cs) := rfl
theorem xUJ (x : Arg) : xAa R F H (.bstr x) = yBa H (src H 1 (opv F x)) := by
 simp only [xAa]
 rcases src H 1 (opv F x) with _ | ⟨n,cs⟩
 ·rfl
 ·simp only [xFW]
  cases xIt cs <;> rfl
end
end Go.Abs
