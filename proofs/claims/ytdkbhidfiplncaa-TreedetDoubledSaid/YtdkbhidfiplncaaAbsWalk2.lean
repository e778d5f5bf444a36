/- The walk's words for maps, strings and rows of bytes. -/
import Derived.Test.YtdkbhidfiplncaaAbsWalk
namespace Go.Abs
set_option linter.unusedVariables false
set_option linter.unusedSimpArgs false

section
variable {R : Rec} {F : List AV} {H : Heap}

theorem ex_mkmap : execOpA R F H .mkmap = some (.mp H.length, H ++ [.mp []]) := rfl
def lookK (c : Bool) (z : AV) (H : Heap) : Option (Option AV) → Option (AV × Heap)
  | none => none
  | some none => some (if c then .tup [z, .bool false] else z, H)
  | some (some v) => some (if c then .tup [v, .bool true] else v, H)
def lookE (c : Bool) (z k : AV) (H : Heap) : Option (List (AV × AV)) → Option (AV × Heap)
  | none => none
  | some es => lookK c z H (findA k es)
theorem lookE_some (c : Bool) (z k : AV) (es : List (AV × AV)) : lookE c z k H (some es) = lookK c z H (findA k es) := rfl
theorem lookK_no (c : Bool) (z : AV) : lookK c z H (some none) = some (if c then .tup [z, .bool false] else z, H) := rfl
theorem lookK_yes (c : Bool) (z v : AV) : lookK c z H (some (some v)) = some (if c then .tup [v, .bool true] else v, H) := rfl
theorem ex_mlook (ks : List Nat) (c : Bool) (z : AV) (x k : Arg) : execOpA R F H (.mlook ks c z x k) = if keyFit ks (opv F k) = true then lookE c z (opv F k) H (entA H (opv F x)) else none := by
  simp only [execOpA]
  split
  · cases entA H (opv F x) with
    | none => rfl
    | some es =>
      simp only [lookE]
      rcases findA (opv F k) es with _ | _ | v <;> simp only [lookK]
  · rfl
def entK : Option Blk → Option (List (AV × AV))
  | some (.mp es) => some es
  | _ => none
theorem entA_mp (id : Nat) : entA H (.mp id) = entK H[id]? := by
  simp only [entA, entK]
  split <;> rename_i h <;> simp [h]
theorem entA_nil : entA H .nilm = some [] := rfl
theorem entK_some (es : List (AV × AV)) : entK (some (.mp es)) = some es := rfl
theorem keyFit_int (k : IntKind) (n : Int) : keyFit [0] (.int k n) = true := rfl
theorem keyFit_str (s : ByteArray) : keyFit [1] (.str s) = true := rfl
def updK (H : Heap) (id : Nat) : Option (List (AV × AV)) → Option (AV × Heap)
  | some es => some (.tup [], H.set id (.mp es))
  | none => none
theorem updK_some (id : Nat) (es : List (AV × AV)) : updK H id (some es) = some (.tup [], H.set id (.mp es)) := rfl
def updE (H : Heap) (k v : AV) (id : Nat) : Option (List (AV × AV)) → Option (AV × Heap)
  | some es => updK H id (updA k v es)
  | none => none
theorem updE_some (k v : AV) (id : Nat) (es : List (AV × AV)) : updE H k v id (some es) = updK H id (updA k v es) := rfl
def updM (H : Heap) (k v : AV) : AV → Option (AV × Heap)
  | .mp id => updE H k v id (entK H[id]?)
  | _ => none
theorem updM_mp (k v : AV) (id : Nat) : updM H k v (.mp id) = updE H k v id (entK H[id]?) := rfl
theorem ex_mupd (ks : List Nat) (m k v : Arg) : execOpA R F H (.mupd ks m k v) = if keyFit ks (opv F k) = true then updM H (opv F k) (opv F v) (opv F m) else none := by
  simp only [execOpA]
  split
  · cases opv F m <;> simp only [updM]
    rename_i id
    split
    · rename_i es h
      rw [h, entK_some, updE_some]
      cases updA (opv F k) (opv F v) es <;> rfl
    · rename_i h
      have : entK H[id]? = none := by
        unfold entK
        split
        · rename_i es he; exact absurd he (h es)
        · rfl
      rw [this]; rfl
  · rfl
def lenK (H : Heap) : Option (List (AV × AV)) → Option (AV × Heap)
  | some es => some (.int .i64 es.length, H)
  | none => none
theorem lenK_some (es : List (AV × AV)) : lenK H (some es) = some (.int .i64 es.length, H) := rfl
theorem ex_mlen (x : Arg) : execOpA R F H (.mlen x) = lenK H (entA H (opv F x)) := by
  simp only [execOpA]
  cases entA H (opv F x) <;> rfl
def bytesK (fz : Bool) (H : Heap) : AV → Option (AV × Heap)
  | .str s => newA fz false s.size 1 (cellsOfStr s) H
  | _ => none
theorem bytesK_str (fz : Bool) (s : ByteArray) : bytesK fz H (.str s) = newA fz false s.size 1 (cellsOfStr s) H := rfl
theorem ex_sbytes (fz : Bool) (x : Arg) : execOpA R F H (.sbytes fz x) = bytesK fz H (opv F x) := by
  simp only [execOpA]
  cases opv F x <;> rfl
def strK1 (H : Heap) : Option (List UInt8) → Option (AV × Heap)
  | some bs => some (.str ⟨⟨bs⟩⟩, H)
  | none => none
theorem strK1_some (bs : List UInt8) : strK1 H (some bs) = some (.str ⟨⟨bs⟩⟩, H) := rfl
def strK0 (H : Heap) : Option (Nat × List AV) → Option (AV × Heap)
  | some (_, cs) => strK1 H (u8sOf cs)
  | none => none
theorem strK0_some (n : Nat) (cs : List AV) : strK0 H (some (n, cs)) = strK1 H (u8sOf cs) := rfl
theorem ex_bstr (x : Arg) : execOpA R F H (.bstr x) = strK0 H (src H 1 (opv F x)) := by
  simp only [execOpA]
  rcases src H 1 (opv F x) with _ | ⟨n, cs⟩
  · rfl
  · simp only [strK0_some]
    cases u8sOf cs <;> rfl
end
end Go.Abs
