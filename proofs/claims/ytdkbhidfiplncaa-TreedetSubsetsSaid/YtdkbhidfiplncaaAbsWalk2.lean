/- The walk's words for maps,strings and rows of bytes. -/
import Derived.Test.YtdkbhidfiplncaaAbsWalk
namespace Go.Abs
set_option linter.unusedVariables false
set_option linter.unusedSimpArgs false

section
variable {R : Rec} {F : List AV} {H : xAv}

theorem xPm : xAn R F H .mkmap = some (.mp H.length,H ++ [.mp []]) := rfl
def xSQ (c : Bool) (z : AV) (H : xAv) : Option (Option AV) → Option (AV × xAv)
  | none => none
  | some none => some (if c then .tup [z,.bool false] else z,H)
  | some (some v) => some (if c then .tup [v,.bool true] else v,H)
def xX0 (c : Bool) (z k : AV) (H : xAv) : Option (List (AV × AV)) → Option (AV × xAv)
  | none => none
  | some es => xSQ c z H (xI8 k es)
theorem xF2 (c : Bool) (z k : AV) (es : List (AV × AV)) : xX0 c z k H (some es) = xSQ c z H (xI8 k es) := rfl
theorem xPn (c : Bool) (z : AV) : xSQ c z H (some none) = some (if c then .tup [z,.bool false] else z,H) := rfl
theorem xNg (c : Bool) (z v : AV) : xSQ c z H (some (some v)) = some (if c then .tup [v,.bool true] else v,H) := rfl
theorem xH7 (ks : List Nat) (c : Bool) (z : AV) (x k : Arg) : xAn R F H (.mlook ks c z x k) = if xDC ks (opv F k) = true then xX0 c z (opv F k) H (xPW H (opv F x)) else none := by
  simp only [xAn]
  split
  · cases xPW H (opv F x) with
    | none => rfl
    | some es =>
      simp only [xX0]
      rcases xI8 (opv F k) es with _ | _ | v <;> simp only [xSQ]
  · rfl
def xX1 : Option Blk → Option (List (AV × AV))
  | some (.mp es) => some es
  | _ => none
theorem xKZ (id : Nat) : xPW H (.mp id) = xX1 H[id]? := by
  simp only [xPW,xX1]
  split <;> rename_i h <;> simp [h]
theorem yBv : xPW H .nilm = some [] := rfl
theorem xEn (es : List (AV × AV)) : xX1 (some (.mp es)) = some es := rfl
theorem xEf (k : IntKind) (n : Int) : xDC [0] (.int k n) = true := rfl
theorem xYQ (s : ByteArray) : xDC [1] (.str s) = true := rfl
def yCO (H : xAv) (id : Nat) : Option (List (AV × AV)) → Option (AV × xAv)
  | some es => some (.tup [],H.set id (.mp es))
  | none => none
theorem xHa (id : Nat) (es : List (AV × AV)) : yCO H id (some es) = some (.tup [],H.set id (.mp es)) := rfl
def yCP (H : xAv) (k v : AV) (id : Nat) : Option (List (AV × AV)) → Option (AV × xAv)
  | some es => yCO H id (xQh k v es)
  | none => none
theorem xFI (k v : AV) (id : Nat) (es : List (AV × AV)) : yCP H k v id (some es) = yCO H id (xQh k v es) := rfl
def yCQ (H : xAv) (k v : AV) : AV → Option (AV × xAv)
  | .mp id => yCP H k v id (xX1 H[id]?)
  | _ => none
theorem xK0 (k v : AV) (id : Nat) : yCQ H k v (.mp id) = yCP H k v id (xX1 H[id]?) := rfl
theorem xK1 (ks : List Nat) (m k v : Arg) : xAn R F H (.mupd ks m k v) = if xDC ks (opv F k) = true then yCQ H (opv F k) (opv F v) (opv F m) else none := by
  simp only [xAn]
  split
  · cases opv F m <;> simp only [yCQ]
    rename_i id
    split
    · rename_i es h
      rw [h,xEn,xFI]
      cases xQh (opv F k) (opv F v) es <;> rfl
    · rename_i h
      have : xX1 H[id]? = none := by
        unfold xX1
        split
        · rename_i es he; exact absurd he (h es)
        · rfl
      rw [this]; rfl
  · rfl
def yEg (H : xAv) : Option (List (AV × AV)) → Option (AV × xAv)
  | some es => some (.int .i64 es.length,H)
  | none => none
theorem yAd (es : List (AV × AV)) : yEg H (some es) = some (.int .i64 es.length,H) := rfl
theorem yCR (x : Arg) : xAn R F H (.mlen x) = yEg H (xPW H (opv F x)) := by
  simp only [xAn]
  cases xPW H (opv F x) <;> rfl
def xVP (fz : Bool) (H : xAv) : AV → Option (AV × xAv)
  | .str s => xFi fz false s.size 1 (xDq s) H
  | _ => none
theorem xYR (fz : Bool) (s : ByteArray) : xVP fz H (.str s) = xFi fz false s.size 1 (xDq s) H := rfl
theorem yAe (fz : Bool) (x : Arg) : xAn R F H (.sbytes fz x) = xVP fz H (opv F x) := by
  simp only [xAn]
  cases opv F x <;> rfl
def xX2 (H : xAv) : Option (List UInt8) → Option (AV × xAv)
  | some bs => some (.str ⟨⟨bs⟩⟩,H)
  | none => none
theorem xYS (bs : List UInt8) : xX2 H (some bs) = some (.str ⟨⟨bs⟩⟩,H) := rfl
def yAf (H : xAv) : Option (Nat × List AV) → Option (AV × xAv)
  | some (_,cs) => xX2 H (xM1 cs)
  | none => none
theorem xP8 (n : Nat) (cs : List AV) : yAf H (some (n,cs)) = xX2 H (xM1 cs) := rfl
theorem yCS (x : Arg) : xAn R F H (.bstr x) = yAf H (src H 1 (opv F x)) := by
  simp only [xAn]
  rcases src H 1 (opv F x) with _ | ⟨n,cs⟩
  · rfl
  · simp only [xP8]
    cases xM1 cs <;> rfl
end
end Go.Abs
