/- The walk's words for maps,strings and rows of bytes. -/
import Derived.Test.YtkpbekcgigigkaaDoorAbsWalk
namespace Go.Abs
set_option linter.unusedVariables false
set_option linter.unusedSimpArgs false
section
variable {R : Rec} {F : List AV} {H : Heap}
theorem xR2 : xAc R F H .mkmap = some (.mp H.length,H ++ [.mp []]) := rfl
def xWn (c : Bool) (z : AV) (H : Heap) : Option (Option AV) → Option (AV × Heap)
  | none => none
  | some none => some (if c then .tup [z,.bool false] else z,H)
  | some (some v) => some (if c then .tup [v,.bool true] else v,H)
def yA4 (c : Bool) (z k : AV) (H : Heap) : Option (List (AV × AV)) → Option (AV × Heap)
  | none => none
  | some es => xWn c z H (xFY k es)
theorem xLb (c : Bool) (z k : AV) (es : List (AV × AV)) : yA4 c z k H (some es) = xWn c z H (xFY k es) := rfl
theorem xR3 (c : Bool) (z : AV) : xWn c z H (some none) = some (if c then .tup [z,.bool false] else z,H) := rfl
theorem xO2 (c : Bool) (z v : AV) : xWn c z H (some (some v)) = some (if c then .tup [v,.bool true] else v,H) := rfl
theorem xR4 (ks : List Nat) (c : Bool) (z : AV) (x k : Arg) : xAc R F H (.mlook ks c z x k) = if xBI ks (opv F k) = true then yA4 c z (opv F k) H (xSF H (opv F x)) else none := by
  simp only [xAc]
  split
  · cases xSF H (opv F x) with
    | none => rfl
    | some es =>
      simp only [yA4]
      rcases xFY (opv F k) es with _ | _ | v <;> simp only [xWn]
  · rfl
def yA5 : Option Blk → Option (List (AV × AV))
  | some (.mp es) => some es
  | _ => none
theorem xWo (id : Nat) : xSF H (.mp id) = yA5 H[id]? := by
  simp only [xSF,yA5]
  split <;> rename_i h <;> simp [h]
theorem xR5 : xSF H .nilm = some [] := rfl
theorem xIU (es : List (AV × AV)) : yA5 (some (.mp es)) = some es := rfl
theorem xLc (k : IntKind) (n : Int) : xBI [0] (.int k n) = true := rfl
theorem xLd (s : ByteArray) : xBI [1] (.str s) = true := rfl
def yD4 (H : Heap) (id : Nat) : Option (List (AV × AV)) → Option (AV × Heap)
  | some es => some (.tup [],H.set id (.mp es))
  | none => none
theorem xO3 (id : Nat) (es : List (AV × AV)) : yD4 H id (some es) = some (.tup [],H.set id (.mp es)) := rfl
def yD5 (H : Heap) (k v : AV) (id : Nat) : Option (List (AV × AV)) → Option (AV × Heap)
  | some es => yD4 H id (xTH k v es)
  | none => none
theorem xIV (k v : AV) (id : Nat) (es : List (AV × AV)) : yD5 H k v id (some es) = yD4 H id (xTH k v es) := rfl
def yD6 (H : Heap) (k v : AV) : AV → Option (AV × Heap)
  | .mp id => yD5 H k v id (yA5 H[id]?)
  | _ => none
theorem xWp (k v : AV) (id : Nat) : yD6 H k v (.mp id) = yD5 H k v id (yA5 H[id]?) := rfl
theorem xWq (ks : List Nat) (m k v : Arg) : xAc R F H (.mupd ks m k v) = if xBI ks (opv F k) = true then yD6 H (opv F k) (opv F v) (opv F m) else none := by
  simp only [xAc]
  split
  · cases opv F m <;> simp only [yD6]
    rename_i id
    split
    · rename_i es h
      rw [h,xIU,xIV]
      cases xTH (opv F k) (opv F v) es <;> rfl
    · rename_i h
      have : yA5 H[id]? = none := by
        unfold yA5
        split
        · rename_i es he; exact absurd he (h es)
        · rfl
      rw [this]; rfl
  · rfl
theorem xGa (ks : List Nat) (cs : List AV) : xBI (2 :: ks) (.agg cs) = xBn ks cs := rfl
theorem xEQ : xBn [] [] = true := rfl
theorem xER (ks : List Nat) (k : IntKind) (n : Int) (cs : List AV) : xBn (0 :: ks) (.int k n :: cs) = xBn ks cs := rfl
def yEy (H : Heap) : Option (List (AV × AV)) → Option (AV × Heap)
  | some es => some (.int .i64 es.length,H)
  | none => none
theorem xO4 (es : List (AV × AV)) : yEy H (some es) = some (.int .i64 es.length,H) := rfl
theorem xWr (x : Arg) : xAc R F H (.mlen x) = yEy H (xSF H (opv F x)) := by
  simp only [xAc]
  cases xSF H (opv F x) <;> rfl
def xZx (fz : Bool) (H : Heap) : AV → Option (AV × Heap)
  | .str s => xDO fz false s.size 1 (xCd s) H
  | _ => none
theorem xLe (fz : Bool) (s : ByteArray) : xZx fz H (.str s) = xDO fz false s.size 1 (xCd s) H := rfl
theorem xO5 (fz : Bool) (x : Arg) : xAc R F H (.sbytes fz x) = xZx fz H (opv F x) := by
  simp only [xAc]
  cases opv F x <;> rfl
def yA6 (H : Heap) : Option (List UInt8) → Option (AV × Heap)
  | some bs => some (.str ⟨⟨bs⟩⟩,H)
  | none => none
theorem xLf (bs : List UInt8) : yA6 H (some bs) = some (.str ⟨⟨bs⟩⟩,H) := rfl
def yCU (H : Heap) : Option (Nat × List AV) → Option (AV × Heap)
  | some (_,cs) => yA6 H (xMC cs)
  | none => none
theorem xGb (n : Nat) (cs : List AV) : yCU H (some (n,cs)) = yA6 H (xMC cs) := rfl
theorem xWs (x : Arg) : xAc R F H (.bstr x) = yCU H (src H 1 (opv F x)) := by
  simp only [xAc]
  rcases src H 1 (opv F x) with _ | ⟨n,cs⟩
  · rfl
  · simp only [xGb]
    cases xMC cs <;> rfl
end
end Go.Abs
