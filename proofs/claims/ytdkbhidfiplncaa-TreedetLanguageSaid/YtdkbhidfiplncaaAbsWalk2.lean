/- The walk's words for maps, strings and rows of bytes. -/
import Derived.Test.YtdkbhidfiplncaaAbsWalk
namespace Go.Abs
set_option linter.unusedVariables false
set_option linter.unusedSimpArgs false

section
variable {R : Rec} {F : List AV} {H : xAA}

theorem xOD : xAm R F H .mkmap = some (.mp H.length, H ++ [.mp []]) := rfl
def xR6 (c : Bool) (z : AV) (H : xAA) : Option (Option AV) → Option (AV × xAA)
  | none => none
  | some none => some (if c then .tup [z, .bool false] else z, H)
  | some (some v) => some (if c then .tup [v, .bool true] else v, H)
def xXl (c : Bool) (z k : AV) (H : xAA) : Option (List (AV × AV)) → Option (AV × xAA)
  | none => none
  | some es => xR6 c z H (xI0 k es)
theorem xF3 (c : Bool) (z k : AV) (es : List (AV × AV)) : xXl c z k H (some es) = xR6 c z H (xI0 k es) := rfl
theorem xOE (c : Bool) (z : AV) : xR6 c z H (some none) = some (if c then .tup [z, .bool false] else z, H) := rfl
theorem xMD (c : Bool) (z v : AV) : xR6 c z H (some (some v)) = some (if c then .tup [v, .bool true] else v, H) := rfl
theorem xH5 (ks : List Nat) (c : Bool) (z : AV) (x k : Arg) : xAm R F H (.mlook ks c z x k) = if xDC ks (opv F k) = true then xXl c z (opv F k) H (xPe H (opv F x)) else none := by
  simp only [xAm]
  split
  · cases xPe H (opv F x) with
    | none => rfl
    | some es =>
      simp only [xXl]
      rcases xI0 (opv F k) es with _ | _ | v <;> simp only [xR6]
  · rfl
def xXm : Option Blk → Option (List (AV × AV))
  | some (.mp es) => some es
  | _ => none
theorem xKT (id : Nat) : xPe H (.mp id) = xXm H[id]? := by
  simp only [xPe, xXm]
  split <;> rename_i h <;> simp [h]
theorem yA1 : xPe H .nilm = some [] := rfl
theorem xEm (es : List (AV × AV)) : xXm (some (.mp es)) = some es := rfl
theorem xD7 (k : IntKind) (n : Int) : xDC [0] (.int k n) = true := rfl
theorem xX7 (s : ByteArray) : xDC [1] (.str s) = true := rfl
def yCe (H : xAA) (id : Nat) : Option (List (AV × AV)) → Option (AV × xAA)
  | some es => some (.tup [], H.set id (.mp es))
  | none => none
theorem xG3 (id : Nat) (es : List (AV × AV)) : yCe H id (some es) = some (.tup [], H.set id (.mp es)) := rfl
def yCf (H : xAA) (k v : AV) (id : Nat) : Option (List (AV × AV)) → Option (AV × xAA)
  | some es => yCe H id (xPD k v es)
  | none => none
theorem xFK (k v : AV) (id : Nat) (es : List (AV × AV)) : yCf H k v id (some es) = yCe H id (xPD k v es) := rfl
def yCg (H : xAA) (k v : AV) : AV → Option (AV × xAA)
  | .mp id => yCf H k v id (xXm H[id]?)
  | _ => none
theorem xKU (k v : AV) (id : Nat) : yCg H k v (.mp id) = yCf H k v id (xXm H[id]?) := rfl
theorem xKV (ks : List Nat) (m k v : Arg) : xAm R F H (.mupd ks m k v) = if xDC ks (opv F k) = true then yCg H (opv F k) (opv F v) (opv F m) else none := by
  simp only [xAm]
  split
  · cases opv F m <;> simp only [yCg]
    rename_i id
    split
    · rename_i es h
      rw [h, xEm, xFK]
      cases xPD (opv F k) (opv F v) es <;> rfl
    · rename_i h
      have : xXm H[id]? = none := by
        unfold xXm
        split
        · rename_i es he; exact absurd he (h es)
        · rfl
      rw [this]; rfl
  · rfl
def yDB (H : xAA) : Option (List (AV × AV)) → Option (AV × xAA)
  | some es => some (.int .i64 es.length, H)
  | none => none
theorem xZR (es : List (AV × AV)) : yDB H (some es) = some (.int .i64 es.length, H) := rfl
theorem yCh (x : Arg) : xAm R F H (.mlen x) = yDB H (xPe H (opv F x)) := by
  simp only [xAm]
  cases xPe H (opv F x) <;> rfl
def xVa (fz : Bool) (H : xAA) : AV → Option (AV × xAA)
  | .str s => xFk fz false s.size 1 (xDn s) H
  | _ => none
theorem xX8 (fz : Bool) (s : ByteArray) : xVa fz H (.str s) = xFk fz false s.size 1 (xDn s) H := rfl
theorem xZS (fz : Bool) (x : Arg) : xAm R F H (.sbytes fz x) = xVa fz H (opv F x) := by
  simp only [xAm]
  cases opv F x <;> rfl
def xXn (H : xAA) : Option (List UInt8) → Option (AV × xAA)
  | some bs => some (.str ⟨⟨bs⟩⟩, H)
  | none => none
theorem xX9 (bs : List UInt8) : xXn H (some bs) = some (.str ⟨⟨bs⟩⟩, H) := rfl
def xZT (H : xAA) : Option (Nat × List AV) → Option (AV × xAA)
  | some (_, cs) => xXn H (xMk cs)
  | none => none
theorem xPy (n : Nat) (cs : List AV) : xZT H (some (n, cs)) = xXn H (xMk cs) := rfl
theorem yCi (x : Arg) : xAm R F H (.bstr x) = xZT H (src H 1 (opv F x)) := by
  simp only [xAm]
  rcases src H 1 (opv F x) with _ | ⟨n, cs⟩
  · rfl
  · simp only [xPy]
    cases xMk cs <;> rfl
end
end Go.Abs
