/- The walk's words for maps,strings and rows of bytes. -/
import Derived.Test.YtkpbekcgigigkaaDoorAbsWalk
namespace Go.Abs
set_option linter.unusedVariables false
set_option linter.unusedSimpArgs false
section
variable {R : Rec} {F : List AV} {H : xAj}
theorem xQq : xAa R F H .mkmap = some (.mp H.length,H ++ [.mp []]) := rfl
def xUm (c : Bool) (z : AV) (H : xAj) : Option (Option AV) → Option (AV × xAj)
  | none => none
  | some none => some (if c then .tup [z,.bool false] else z,H)
  | some (some v) => some (if c then .tup [v,.bool true] else v,H)
def xYx (c : Bool) (z k : AV) (H : xAj) : Option (List (AV × AV)) → Option (AV × xAj)
  | none => none
  | some es => xUm c z H (xFk k es)
theorem xKh (c : Bool) (z k : AV) (es : List (AV × AV)) : xYx c z k H (some es) = xUm c z H (xFk k es) := rfl
theorem xQr (c : Bool) (z : AV) : xUm c z H (some none) = some (if c then .tup [z,.bool false] else z,H) := rfl
theorem xNJ (c : Bool) (z v : AV) : xUm c z H (some (some v)) = some (if c then .tup [v,.bool true] else v,H) := rfl
theorem xQs (ks : List Nat) (c : Bool) (z : AV) (x k : Arg) : xAa R F H (.mlook ks c z x k) = if xBh ks (opv F k) = true then xYx c z (opv F k) H (xQU H (opv F x)) else none := by
  simp only [xAa]
  split
  · cases xQU H (opv F x) with
    | none => rfl
    | some es =>
      simp only [xYx]
      rcases xFk (opv F k) es with _ | _ | v <;> simp only [xUm]
  · rfl
def xYy : Option Blk → Option (List (AV × AV))
  | some (.mp es) => some es
  | _ => none
theorem xUn (id : Nat) : xQU H (.mp id) = xYy H[id]? := by
  simp only [xQU,xYy]
  split <;> rename_i h <;> simp [h]
theorem xQt : xQU H .nilm = some [] := rfl
theorem xH9 (es : List (AV × AV)) : xYy (some (.mp es)) = some es := rfl
theorem xKi (k : IntKind) (n : Int) : xBh [0] (.int k n) = true := rfl
theorem xKj (s : ByteArray) : xBh [1] (.str s) = true := rfl
def yBh (H : xAj) (id : Nat) : Option (List (AV × AV)) → Option (AV × xAj)
  | some es => some (.tup [],H.set id (.mp es))
  | none => none
theorem xNK (id : Nat) (es : List (AV × AV)) : yBh H id (some es) = some (.tup [],H.set id (.mp es)) := rfl
def yBi (H : xAj) (k v : AV) (id : Nat) : Option (List (AV × AV)) → Option (AV × xAj)
  | some es => yBh H id (xRV k v es)
  | none => none
theorem xIa (k v : AV) (id : Nat) (es : List (AV × AV)) : yBi H k v id (some es) = yBh H id (xRV k v es) := rfl
def yBj (H : xAj) (k v : AV) : AV → Option (AV × xAj)
  | .mp id => yBi H k v id (xYy H[id]?)
  | _ => none
theorem xUo (k v : AV) (id : Nat) : yBj H k v (.mp id) = yBi H k v id (xYy H[id]?) := rfl
theorem xUp (ks : List Nat) (m k v : Arg) : xAa R F H (.mupd ks m k v) = if xBh ks (opv F k) = true then yBj H (opv F k) (opv F v) (opv F m) else none := by
  simp only [xAa]
  split
  · cases opv F m <;> simp only [yBj]
    rename_i id
    split
    · rename_i es h
      rw [h,xH9,xIa]
      cases xRV (opv F k) (opv F v) es <;> rfl
    · rename_i h
      have : xYy H[id]? = none := by
        unfold xYy
        split
        · rename_i es he; exact absurd he (h es)
        · rfl
      rw [this]; rfl
  · rfl
theorem xFv (ks : List Nat) (cs : List AV) : xBh (2 :: ks) (.agg cs) = xAY ks cs := rfl
theorem xEh : xAY [] [] = true := rfl
theorem xEi (ks : List Nat) (k : IntKind) (n : Int) (cs : List AV) : xAY (0 :: ks) (.int k n :: cs) = xAY ks cs := rfl
def yBA (H : xAj) : Option (List (AV × AV)) → Option (AV × xAj)
  | some es => some (.int .i64 es.length,H)
  | none => none
theorem xNL (es : List (AV × AV)) : yBA H (some es) = some (.int .i64 es.length,H) := rfl
theorem xUq (x : Arg) : xAa R F H (.mlen x) = yBA H (xQU H (opv F x)) := by
  simp only [xAa]
  cases xQU H (opv F x) <;> rfl
def xXl (fz : Bool) (H : xAj) : AV → Option (AV × xAj)
  | .str s => xC9 fz false s.size 1 (xBE s) H
  | _ => none
theorem xKk (fz : Bool) (s : ByteArray) : xXl fz H (.str s) = xC9 fz false s.size 1 (xBE s) H := rfl
theorem xNM (fz : Bool) (x : Arg) : xAa R F H (.sbytes fz x) = xXl fz H (opv F x) := by
  simp only [xAa]
  cases opv F x <;> rfl
def xYz (H : xAj) : Option (List UInt8) → Option (AV × xAj)
  | some bs => some (.str ⟨⟨bs⟩⟩,H)
  | none => none
theorem xKl (bs : List UInt8) : xYz H (some bs) = some (.str ⟨⟨bs⟩⟩,H) := rfl
def xZ8 (H : xAj) : Option (Nat × List AV) → Option (AV × xAj)
  | some (_,cs) => xYz H (xLH cs)
  | none => none
theorem xFw (n : Nat) (cs : List AV) : xZ8 H (some (n,cs)) = xYz H (xLH cs) := rfl
theorem xUr (x : Arg) : xAa R F H (.bstr x) = xZ8 H (src H 1 (opv F x)) := by
  simp only [xAa]
  rcases src H 1 (opv F x) with _ | ⟨n,cs⟩
  · rfl
  · simp only [xFw]
    cases xLH cs <;> rfl
end
end Go.Abs
