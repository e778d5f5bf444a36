/- The walk's words for maps,strings and rows of bytes. -/
import Derived.Test.YtdkbhidfiplncaaAbsWalk
namespace Go.Abs
set_option linter.unusedVariables false
set_option linter.unusedSimpArgs false
section
variable {R : Rec} {F : List AV} {H : xAc}
theorem xT3 : xAb R F H .mkmap = some (.mp H.length,H ++ [.mp []]) := rfl
def xYH (c : Bool) (z : AV) (H : xAc) : Option (Option AV) → Option (AV × xAc)
 | none => none
 | some none => some (if c then .tup [z,.bool false] else z,H)
 | some (some v) => some (if c then .tup [v,.bool true] else v,H)
def yER (c : Bool) (z k : AV) (H : xAc) : Option (List (AV × AV)) → Option (AV × xAc)
 | none => none
 | some es => xYH c z H (xFO k es)
theorem xLs (c : Bool) (z k : AV) (es : List (AV × AV)) : yER c z k H (some es) = xYH c z H (xFO k es) := rfl
theorem xT4 (c : Bool) (z : AV) : xYH c z H (some none) = some (if c then .tup [z,.bool false] else z,H) := rfl
theorem xQh (c : Bool) (z v : AV) : xYH c z H (some (some v)) = some (if c then .tup [v,.bool true] else v,H) := rfl
theorem xT5 (ks : List Nat) (c : Bool) (z : AV) (x k : Arg) : xAb R F H (.mlook ks c z x k) = if xBJ ks (opv F k) = true then yER c z (opv F k) H (xU7 H (opv F x)) else none := by
 simp only [xAb]
 split
 ·cases xU7 H (opv F x) with
  | none => rfl
  | some es =>
   simp only [yER]
   rcases xFO (opv F k) es with _ | _ | v <;> simp only [xYH]
 ·rfl
def yES : Option Blk → Option (List (AV × AV))
 | some (.mp es) => some es
 | _ => none
theorem xYI (id : Nat) : xU7 H (.mp id) = yES H[id]? := by
 simp only [xU7,yES]
 split <;> rename_i h <;> simp [h]
theorem xT6 : xU7 H .nilm = some [] := rfl
theorem xIZ (es : List (AV × AV)) : yES (some (.mp es)) = some es := rfl
theorem xLt (k : IntKind) (n : Int) : xBJ [0] (.int k n) = true := rfl
theorem xLu (s : ByteArray) : xBJ [1] (.str s) = true := rfl
def yIo (H : xAc) (id : Nat) : Option (List (AV × AV)) → Option (AV × xAc)
 | some es => some (.tup [],H.set id (.mp es))
 | none => none
theorem xQi (id : Nat) (es : List (AV × AV)) : yIo H id (some es) = some (.tup [],H.set id (.mp es)) := rfl
def yIp (H : xAc) (k v : AV) (id : Nat) : Option (List (AV × AV)) → Option (AV × xAc)
 | some es => yIo H id (xTU k v es)
 | none => none
theorem xI0 (k v : AV) (id : Nat) (es : List (AV × AV)) : yIp H k v id (some es) = yIo H id (xTU k v es) := rfl
def yIq (H : xAc) (k v : AV) : AV → Option (AV × xAc)
 | .mp id => yIp H k v id (yES H[id]?)
 | _ => none
theorem xYJ (k v : AV) (id : Nat) : yIq H k v (.mp id) = yIp H k v id (yES H[id]?) := rfl
theorem xYK (ks : List Nat) (m k v : Arg) : xAb R F H (.mupd ks m k v) = if xBJ ks (opv F k) = true then yIq H (opv F k) (opv F v) (opv F m) else none := by
 simp only [xAb]
 split
 ·cases opv F m <;> simp only [yIq]
  rename_i id
  split
  ·rename_i es h
   rw [h,xIZ,xI0]
   cases xTU (opv F k) (opv F v) es <;> rfl
  ·rename_i h
   have : yES H[id]? = none := by
    unfold yES
    split
    ·rename_i es he; exact absurd he (h es)
    ·rfl
   rw [this]; rfl
 ·rfl
def yJb (H : xAc) : Option (List (AV × AV)) → Option (AV × xAc)
 | some es => some (.int .i64 es.length,H)
 | none => none
theorem xQj (es : List (AV × AV)) : yJb H (some es) = some (.int .i64 es.length,H) := rfl
theorem xYL (x : Arg) : xAb R F H (.mlen x) = yJb H (xU7 H (opv F x)) := by
 simp only [xAb]
 cases xU7 H (opv F x) <;> rfl
def yDq (fz : Bool) (H : xAc) : AV → Option (AV × xAc)
 | .str s => xDm fz false s.size 1 (xBv s) H
 | _ => none
theorem xLv (fz : Bool) (s : ByteArray) : yDq fz H (.str s) = xDm fz false s.size 1 (xBv s) H := rfl
theorem xQk (fz : Bool) (x : Arg) : xAb R F H (.sbytes fz x) = yDq fz H (opv F x) := by
 simp only [xAb]
 cases opv F x <;> rfl
def yET (H : xAc) : Option (List UInt8) → Option (AV × xAc)
 | some bs => some (.str ⟨⟨bs⟩⟩,H)
 | none => none
theorem xLw (bs : List UInt8) : yET H (some bs) = some (.str ⟨⟨bs⟩⟩,H) := rfl
def yGF (H : xAc) : Option (Nat × List AV) → Option (AV × xAc)
 | some (_,cs) => yET H (xJs cs)
 | none => none
theorem xFV (n : Nat) (cs : List AV) : yGF H (some (n,cs)) = yET H (xJs cs) := rfl
theorem xYM (x : Arg) : xAb R F H (.bstr x) = yGF H (src H 1 (opv F x)) := by
 simp only [xAb]
 rcases src H 1 (opv F x) with _ | ⟨n,cs⟩
 ·rfl
 ·simp only [xFV]
  cases xJs cs <;> rfl
end
end Go.Abs
