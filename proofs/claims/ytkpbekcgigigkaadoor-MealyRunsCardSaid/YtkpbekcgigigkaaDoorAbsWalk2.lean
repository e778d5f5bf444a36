/- The walk's words for maps,strings and rows of bytes. -/
import Derived.Test.YtkpbekcgigigkaaDoorAbsWalk
namespace Go.Abs
set_option linter.unusedVariables false
set_option linter.unusedSimpArgs false
section
variable {R : Rec} {F : List AV} {H : Heap}
theorem xQs : xAa R F H .mkmap = some (.mp H.length,H ++ [.mp []]) := rfl
def xUq (c : Bool) (z : AV) (H : Heap) : Option (Option AV) → Option (AV × Heap)
  | none => none
  | some none => some (if c then .tup [z,.bool false] else z,H)
  | some (some v) => some (if c then .tup [v,.bool true] else v,H)
def xYJ (c : Bool) (z k : AV) (H : Heap) : Option (List (AV × AV)) → Option (AV × Heap)
  | none => none
  | some es => xUq c z H (xFj k es)
theorem xKg (c : Bool) (z k : AV) (es : List (AV × AV)) : xYJ c z k H (some es) = xUq c z H (xFj k es) := rfl
theorem xQt (c : Bool) (z : AV) : xUq c z H (some none) = some (if c then .tup [z,.bool false] else z,H) := rfl
theorem xNK (c : Bool) (z v : AV) : xUq c z H (some (some v)) = some (if c then .tup [v,.bool true] else v,H) := rfl
theorem xQu (ks : List Nat) (c : Bool) (z : AV) (x k : Arg) : xAa R F H (.mlook ks c z x k) = if xBn ks (opv F k) = true then xYJ c z (opv F k) H (xQY H (opv F x)) else none := by
  simp only [xAa]
  split
  · cases xQY H (opv F x) with
    | none => rfl
    | some es =>
      simp only [xYJ]
      rcases xFj (opv F k) es with _ | _ | v <;> simp only [xUq]
  · rfl
def xYK : Option Blk → Option (List (AV × AV))
  | some (.mp es) => some es
  | _ => none
theorem xUr (id : Nat) : xQY H (.mp id) = xYK H[id]? := by
  simp only [xQY,xYK]
  split <;> rename_i h <;> simp [h]
theorem xQv : xQY H .nilm = some [] := rfl
theorem xH9 (es : List (AV × AV)) : xYK (some (.mp es)) = some es := rfl
theorem xKh (k : IntKind) (n : Int) : xBn [0] (.int k n) = true := rfl
theorem xKi (s : ByteArray) : xBn [1] (.str s) = true := rfl
def yBF (H : Heap) (id : Nat) : Option (List (AV × AV)) → Option (AV × Heap)
  | some es => some (.tup [],H.set id (.mp es))
  | none => none
theorem xNL (id : Nat) (es : List (AV × AV)) : yBF H id (some es) = some (.tup [],H.set id (.mp es)) := rfl
def yBG (H : Heap) (k v : AV) (id : Nat) : Option (List (AV × AV)) → Option (AV × Heap)
  | some es => yBF H id (xRT k v es)
  | none => none
theorem xIa (k v : AV) (id : Nat) (es : List (AV × AV)) : yBG H k v id (some es) = yBF H id (xRT k v es) := rfl
def yBH (H : Heap) (k v : AV) : AV → Option (AV × Heap)
  | .mp id => yBG H k v id (xYK H[id]?)
  | _ => none
theorem xUs (k v : AV) (id : Nat) : yBH H k v (.mp id) = yBG H k v id (xYK H[id]?) := rfl
theorem xUt (ks : List Nat) (m k v : Arg) : xAa R F H (.mupd ks m k v) = if xBn ks (opv F k) = true then yBH H (opv F k) (opv F v) (opv F m) else none := by
  simp only [xAa]
  split
  · cases opv F m <;> simp only [yBH]
    rename_i id
    split
    · rename_i es h
      rw [h,xH9,xIa]
      cases xRT (opv F k) (opv F v) es <;> rfl
    · rename_i h
      have : xYK H[id]? = none := by
        unfold xYK
        split
        · rename_i es he; exact absurd he (h es)
        · rfl
      rw [this]; rfl
  · rfl
theorem xFt (ks : List Nat) (cs : List AV) : xBn (2 :: ks) (.agg cs) = xA1 ks cs := rfl
theorem xEf : xA1 [] [] = true := rfl
theorem xEg (ks : List Nat) (k : IntKind) (n : Int) (cs : List AV) : xA1 (0 :: ks) (.int k n :: cs) = xA1 ks cs := rfl
def yB8 (H : Heap) : Option (List (AV × AV)) → Option (AV × Heap)
  | some es => some (.int .i64 es.length,H)
  | none => none
theorem xNM (es : List (AV × AV)) : yB8 H (some es) = some (.int .i64 es.length,H) := rfl
theorem xUu (x : Arg) : xAa R F H (.mlen x) = yB8 H (xQY H (opv F x)) := by
  simp only [xAa]
  cases xQY H (opv F x) <;> rfl
def xXp (fz : Bool) (H : Heap) : AV → Option (AV × Heap)
  | .str s => xDb fz false s.size 1 (xBM s) H
  | _ => none
theorem xKj (fz : Bool) (s : ByteArray) : xXp fz H (.str s) = xDb fz false s.size 1 (xBM s) H := rfl
theorem xNN (fz : Bool) (x : Arg) : xAa R F H (.sbytes fz x) = xXp fz H (opv F x) := by
  simp only [xAa]
  cases opv F x <;> rfl
def xYL (H : Heap) : Option (List UInt8) → Option (AV × Heap)
  | some bs => some (.str ⟨⟨bs⟩⟩,H)
  | none => none
theorem xKk (bs : List UInt8) : xYL H (some bs) = some (.str ⟨⟨bs⟩⟩,H) := rfl
def yAr (H : Heap) : Option (Nat × List AV) → Option (AV × Heap)
  | some (_,cs) => xYL H (xLL cs)
  | none => none
theorem xFu (n : Nat) (cs : List AV) : yAr H (some (n,cs)) = xYL H (xLL cs) := rfl
theorem xUv (x : Arg) : xAa R F H (.bstr x) = yAr H (src H 1 (opv F x)) := by
  simp only [xAa]
  rcases src H 1 (opv F x) with _ | ⟨n,cs⟩
  · rfl
  · simp only [xFu]
    cases xLL cs <;> rfl
end
end Go.Abs
