/- The walk's words for maps,strings and rows of bytes. -/
import Derived.Test.YtdheandekcpieaaDoorAbsWalk
namespace Go.Abs
set_option linter.unusedVariables false
set_option linter.unusedSimpArgs false
section
variable {R : Rec} {F : List AV} {H : Heap}
theorem xSb : xAb R F H .mkmap = some (.mp H.length,H ++ [.mp []]) := rfl
def xV9 (c : Bool) (z : AV) (H : Heap) : Option (Option AV) → Option (AV × Heap)
  | none => none
  | some none => some (if c then .tup [z,.bool false] else z,H)
  | some (some v) => some (if c then .tup [v,.bool true] else v,H)
def yAm (c : Bool) (z k : AV) (H : Heap) : Option (List (AV × AV)) → Option (AV × Heap)
  | none => none
  | some es => xV9 c z H (xJO k es)
theorem xLL (c : Bool) (z k : AV) (es : List (AV × AV)) : yAm c z k H (some es) = xV9 c z H (xJO k es) := rfl
theorem xSc (c : Bool) (z : AV) : xV9 c z H (some none) = some (if c then .tup [z,.bool false] else z,H) := rfl
theorem xO0 (c : Bool) (z v : AV) : xV9 c z H (some (some v)) = some (if c then .tup [v,.bool true] else v,H) := rfl
theorem xSd (ks : List Nat) (c : Bool) (z : AV) (x k : Arg) : xAb R F H (.mlook ks c z x k) = if xB1 ks (opv F k) = true then yAm c z (opv F k) H (xSM H (opv F x)) else none := by
  simp only [xAb]
  split
  · cases xSM H (opv F x) with
    | none => rfl
    | some es =>
      simp only [yAm]
      rcases xJO (opv F k) es with _ | _ | v <;> simp only [xV9]
  · rfl
def yAn : Option Blk → Option (List (AV × AV))
  | some (.mp es) => some es
  | _ => none
theorem xWa (id : Nat) : xSM H (.mp id) = yAn H[id]? := by
  simp only [xSM,yAn]
  split <;> rename_i h <;> simp [h]
theorem xSe : xSM H .nilm = some [] := rfl
theorem xJC (es : List (AV × AV)) : yAn (some (.mp es)) = some es := rfl
theorem xLM (k : IntKind) (n : Int) : xB1 [0] (.int k n) = true := rfl
theorem xLN (s : ByteArray) : xB1 [1] (.str s) = true := rfl
def yD0 (H : Heap) (id : Nat) : Option (List (AV × AV)) → Option (AV × Heap)
  | some es => some (.tup [],H.set id (.mp es))
  | none => none
theorem xO1 (id : Nat) (es : List (AV × AV)) : yD0 H id (some es) = some (.tup [],H.set id (.mp es)) := rfl
def yD1 (H : Heap) (k v : AV) (id : Nat) : Option (List (AV × AV)) → Option (AV × Heap)
  | some es => yD0 H id (xW7 k v es)
  | none => none
theorem xJD (k v : AV) (id : Nat) (es : List (AV × AV)) : yD1 H k v id (some es) = yD0 H id (xW7 k v es) := rfl
def yD2 (H : Heap) (k v : AV) : AV → Option (AV × Heap)
  | .mp id => yD1 H k v id (yAn H[id]?)
  | _ => none
theorem xWb (k v : AV) (id : Nat) : yD2 H k v (.mp id) = yD1 H k v id (yAn H[id]?) := rfl
theorem xWc (ks : List Nat) (m k v : Arg) : xAb R F H (.mupd ks m k v) = if xB1 ks (opv F k) = true then yD2 H (opv F k) (opv F v) (opv F m) else none := by
  simp only [xAb]
  split
  · cases opv F m <;> simp only [yD2]
    rename_i id
    split
    · rename_i es h
      rw [h,xJC,xJD]
      cases xW7 (opv F k) (opv F v) es <;> rfl
    · rename_i h
      have : yAn H[id]? = none := by
        unfold yAn
        split
        · rename_i es he; exact absurd he (h es)
        · rfl
      rw [this]; rfl
  · rfl
def yEK (H : Heap) : Option (List (AV × AV)) → Option (AV × Heap)
  | some es => some (.int .i64 es.length,H)
  | none => none
theorem xO2 (es : List (AV × AV)) : yEK H (some es) = some (.int .i64 es.length,H) := rfl
theorem xWd (x : Arg) : xAb R F H (.mlen x) = yEK H (xSM H (opv F x)) := by
  simp only [xAb]
  cases xSM H (opv F x) <;> rfl
def xY8 (fz : Bool) (H : Heap) : AV → Option (AV × Heap)
  | .str s => xD0 fz false s.size 1 (xCq s) H
  | _ => none
theorem xLO (fz : Bool) (s : ByteArray) : xY8 fz H (.str s) = xD0 fz false s.size 1 (xCq s) H := rfl
theorem xO3 (fz : Bool) (x : Arg) : xAb R F H (.sbytes fz x) = xY8 fz H (opv F x) := by
  simp only [xAb]
  cases opv F x <;> rfl
def yAo (H : Heap) : Option (List UInt8) → Option (AV × Heap)
  | some bs => some (.str ⟨⟨bs⟩⟩,H)
  | none => none
theorem xGF (bs : List UInt8) : yAo H (some bs) = some (.str ⟨⟨bs⟩⟩,H) := rfl
def yCe (H : Heap) : Option (Nat × List AV) → Option (AV × Heap)
  | some (_,cs) => yAo H (xJP cs)
  | none => none
theorem xEM (n : Nat) (cs : List AV) : yCe H (some (n,cs)) = yAo H (xJP cs) := rfl
theorem xP3 (x : Arg) : xAb R F H (.bstr x) = yCe H (src H 1 (opv F x)) := by
  simp only [xAb]
  rcases src H 1 (opv F x) with _ | ⟨n,cs⟩
  · rfl
  · simp only [xEM]
    cases xJP cs <;> rfl
end
end Go.Abs
