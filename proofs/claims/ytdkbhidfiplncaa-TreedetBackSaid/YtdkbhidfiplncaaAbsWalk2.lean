/- The walk's words for maps, strings and rows of bytes. -/
import Derived.Test.YtdkbhidfiplncaaAbsWalk
namespace Go.Abs
set_option linter.unusedVariables false
set_option linter.unusedSimpArgs false

section
variable {R : Rec} {F : List AV} {H : xAu}

theorem xPu : xAm R F H .mkmap = some (.mp H.length, H ++ [.mp []]) := rfl
def xSQ (c : Bool) (z : AV) (H : xAu) : Option (Option AV) → Option (AV × xAu)
  | none => none
  | some none => some (if c then .tup [z, .bool false] else z, H)
  | some (some v) => some (if c then .tup [v, .bool true] else v, H)
def xYh (c : Bool) (z k : AV) (H : xAu) : Option (List (AV × AV)) → Option (AV × xAu)
  | none => none
  | some es => xSQ c z H (xHf k es)
theorem xDJ (c : Bool) (z k : AV) (es : List (AV × AV)) : xYh c z k H (some es) = xSQ c z H (xHf k es) := rfl
theorem xK6 (c : Bool) (z : AV) : xSQ c z H (some none) = some (if c then .tup [z, .bool false] else z, H) := rfl
theorem xGZ (c : Bool) (z v : AV) : xSQ c z H (some (some v)) = some (if c then .tup [v, .bool true] else v, H) := rfl
theorem xE4 (ks : List Nat) (c : Bool) (z : AV) (x k : Arg) : xAm R F H (.mlook ks c z x k) = if xDx ks (opv F k) = true then xYh c z (opv F k) H (xPY H (opv F x)) else none := by
  simp only [xAm]
  split
  · cases xPY H (opv F x) with
    | none => rfl
    | some es =>
      simp only [xYh]
      rcases xHf (opv F k) es with _ | _ | v <;> simp only [xSQ]
  · rfl
def xYi : Option Blk → Option (List (AV × AV))
  | some (.mp es) => some es
  | _ => none
theorem xGq (id : Nat) : xPY H (.mp id) = xYi H[id]? := by
  simp only [xPY, xYi]
  split <;> rename_i h <;> simp [h]
theorem yCg : xPY H .nilm = some [] := rfl
theorem xDg (es : List (AV × AV)) : xYi (some (.mp es)) = some es := rfl
theorem xC9 (k : IntKind) (n : Int) : xDx [0] (.int k n) = true := rfl
theorem xY9 (s : ByteArray) : xDx [1] (.str s) = true := rfl
def yDq (H : xAu) (id : Nat) : Option (List (AV × AV)) → Option (AV × xAu)
  | some es => some (.tup [], H.set id (.mp es))
  | none => none
theorem xFL (id : Nat) (es : List (AV × AV)) : yDq H id (some es) = some (.tup [], H.set id (.mp es)) := rfl
def yDr (H : xAu) (k v : AV) (id : Nat) : Option (List (AV × AV)) → Option (AV × xAu)
  | some es => yDq H id (xPd k v es)
  | none => none
theorem xEL (k v : AV) (id : Nat) (es : List (AV × AV)) : yDr H k v id (some es) = yDq H id (xPd k v es) := rfl
def yDs (H : xAu) (k v : AV) : AV → Option (AV × xAu)
  | .mp id => yDr H k v id (xYi H[id]?)
  | _ => none
theorem xJq (k v : AV) (id : Nat) : yDs H k v (.mp id) = yDr H k v id (xYi H[id]?) := rfl
theorem xJr (ks : List Nat) (m k v : Arg) : xAm R F H (.mupd ks m k v) = if xDx ks (opv F k) = true then yDs H (opv F k) (opv F v) (opv F m) else none := by
  simp only [xAm]
  split
  · cases opv F m <;> simp only [yDs]
    rename_i id
    split
    · rename_i es h
      rw [h, xDg, xEL]
      cases xPd (opv F k) (opv F v) es <;> rfl
    · rename_i h
      have : xYi H[id]? = none := by
        unfold xYi
        split
        · rename_i es he; exact absurd he (h es)
        · rfl
      rw [this]; rfl
  · rfl
def yEC (H : xAu) : Option (List (AV × AV)) → Option (AV × xAu)
  | some es => some (.int .i64 es.length, H)
  | none => none
theorem yAV (es : List (AV × AV)) : yEC H (some es) = some (.int .i64 es.length, H) := rfl
theorem yDt (x : Arg) : xAm R F H (.mlen x) = yEC H (xPY H (opv F x)) := by
  simp only [xAm]
  cases xPY H (opv F x) <;> rfl
def xV4 (fz : Bool) (H : xAu) : AV → Option (AV × xAu)
  | .str s => xFj fz false s.size 1 (xDp s) H
  | _ => none
theorem xZa (fz : Bool) (s : ByteArray) : xV4 fz H (.str s) = xFj fz false s.size 1 (xDp s) H := rfl
theorem yAW (fz : Bool) (x : Arg) : xAm R F H (.sbytes fz x) = xV4 fz H (opv F x) := by
  simp only [xAm]
  cases opv F x <;> rfl
def xYj (H : xAu) : Option (List UInt8) → Option (AV × xAu)
  | some bs => some (.str ⟨⟨bs⟩⟩, H)
  | none => none
theorem xZb (bs : List UInt8) : xYj H (some bs) = some (.str ⟨⟨bs⟩⟩, H) := rfl
def yAX (H : xAu) : Option (Nat × List AV) → Option (AV × xAu)
  | some (_, cs) => xYj H (xMR cs)
  | none => none
theorem xQm (n : Nat) (cs : List AV) : yAX H (some (n, cs)) = xYj H (xMR cs) := rfl
theorem yDu (x : Arg) : xAm R F H (.bstr x) = yAX H (src H 1 (opv F x)) := by
  simp only [xAm]
  rcases src H 1 (opv F x) with _ | ⟨n, cs⟩
  · rfl
  · simp only [xQm]
    cases xMR cs <;> rfl
end
end Go.Abs
