/- The walk's words for maps,strings and rows of bytes. -/
import Derived.Test.YtkpbekcgigigkaaDoorAbsWalk
namespace Go.Abs
set_option linter.unusedVariables false
set_option linter.unusedSimpArgs false
section
variable {R : Rec} {F : List AV} {H : Heap}
theorem xQH : xAb R F H .mkmap = some (.mp H.length,H ++ [.mp []]) := rfl
def xUO (c : Bool) (z : AV) (H : Heap) : Option (Option AV) → Option (AV × Heap)
  | none => none
  | some none => some (if c then .tup [z,.bool false] else z,H)
  | some (some v) => some (if c then .tup [v,.bool true] else v,H)
def xY4 (c : Bool) (z k : AV) (H : Heap) : Option (List (AV × AV)) → Option (AV × Heap)
  | none => none
  | some es => xUO c z H (xED k es)
theorem xKu (c : Bool) (z k : AV) (es : List (AV × AV)) : xY4 c z k H (some es) = xUO c z H (xED k es) := rfl
theorem xQI (c : Bool) (z : AV) : xUO c z H (some none) = some (if c then .tup [z,.bool false] else z,H) := rfl
theorem xNV (c : Bool) (z v : AV) : xUO c z H (some (some v)) = some (if c then .tup [v,.bool true] else v,H) := rfl
theorem xQJ (ks : List Nat) (c : Bool) (z : AV) (x k : Arg) : xAb R F H (.mlook ks c z x k) = if xBj ks (opv F k) = true then xY4 c z (opv F k) H (xRf H (opv F x)) else none := by
  simp only [xAb]
  split
  · cases xRf H (opv F x) with
    | none => rfl
    | some es =>
      simp only [xY4]
      rcases xED (opv F k) es with _ | _ | v <;> simp only [xUO]
  · rfl
def xY5 : Option Blk → Option (List (AV × AV))
  | some (.mp es) => some es
  | _ => none
theorem xUP (id : Nat) : xRf H (.mp id) = xY5 H[id]? := by
  simp only [xRf,xY5]
  split <;> rename_i h <;> simp [h]
theorem xQK : xRf H .nilm = some [] := rfl
theorem xIk (es : List (AV × AV)) : xY5 (some (.mp es)) = some es := rfl
theorem xKv (k : IntKind) (n : Int) : xBj [0] (.int k n) = true := rfl
theorem xKw (s : ByteArray) : xBj [1] (.str s) = true := rfl
def yB2 (H : Heap) (id : Nat) : Option (List (AV × AV)) → Option (AV × Heap)
  | some es => some (.tup [],H.set id (.mp es))
  | none => none
theorem xNW (id : Nat) (es : List (AV × AV)) : yB2 H id (some es) = some (.tup [],H.set id (.mp es)) := rfl
def yB3 (H : Heap) (k v : AV) (id : Nat) : Option (List (AV × AV)) → Option (AV × Heap)
  | some es => yB2 H id (xRK k v es)
  | none => none
theorem xIl (k v : AV) (id : Nat) (es : List (AV × AV)) : yB3 H k v id (some es) = yB2 H id (xRK k v es) := rfl
def yB4 (H : Heap) (k v : AV) : AV → Option (AV × Heap)
  | .mp id => yB3 H k v id (xY5 H[id]?)
  | _ => none
theorem xUQ (k v : AV) (id : Nat) : yB4 H k v (.mp id) = yB3 H k v id (xY5 H[id]?) := rfl
theorem xUR (ks : List Nat) (m k v : Arg) : xAb R F H (.mupd ks m k v) = if xBj ks (opv F k) = true then yB4 H (opv F k) (opv F v) (opv F m) else none := by
  simp only [xAb]
  split
  · cases opv F m <;> simp only [yB4]
    rename_i id
    split
    · rename_i es h
      rw [h,xIk,xIl]
      cases xRK (opv F k) (opv F v) es <;> rfl
    · rename_i h
      have : xY5 H[id]? = none := by
        unfold xY5
        split
        · rename_i es he; exact absurd he (h es)
        · rfl
      rw [this]; rfl
  · rfl
theorem xCf (ks : List Nat) (cs : List AV) : xBj (2 :: ks) (.agg cs) = xAX ks cs := rfl
theorem xBX : xAX [] [] = true := rfl
theorem xBY (ks : List Nat) (k : IntKind) (n : Int) (cs : List AV) : xAX (0 :: ks) (.int k n :: cs) = xAX ks cs := rfl
def yCv (H : Heap) : Option (List (AV × AV)) → Option (AV × Heap)
  | some es => some (.int .i64 es.length,H)
  | none => none
theorem xNX (es : List (AV × AV)) : yCv H (some es) = some (.int .i64 es.length,H) := rfl
theorem xUS (x : Arg) : xAb R F H (.mlen x) = yCv H (xRf H (opv F x)) := by
  simp only [xAb]
  cases xRf H (opv F x) <;> rfl
def xXP (fz : Bool) (H : Heap) : AV → Option (AV × Heap)
  | .str s => xDd fz false s.size 1 (xBK s) H
  | _ => none
theorem xKx (fz : Bool) (s : ByteArray) : xXP fz H (.str s) = xDd fz false s.size 1 (xBK s) H := rfl
theorem xNY (fz : Bool) (x : Arg) : xAb R F H (.sbytes fz x) = xXP fz H (opv F x) := by
  simp only [xAb]
  cases opv F x <;> rfl
def xY6 (H : Heap) : Option (List UInt8) → Option (AV × Heap)
  | some bs => some (.str ⟨⟨bs⟩⟩,H)
  | none => none
theorem xKy (bs : List UInt8) : xY6 H (some bs) = some (.str ⟨⟨bs⟩⟩,H) := rfl
def yAQ (H : Heap) : Option (Nat × List AV) → Option (AV × Heap)
  | some (_,cs) => xY6 H (xLR cs)
  | none => none
theorem xFA (n : Nat) (cs : List AV) : yAQ H (some (n,cs)) = xY6 H (xLR cs) := rfl
theorem xUT (x : Arg) : xAb R F H (.bstr x) = yAQ H (src H 1 (opv F x)) := by
  simp only [xAb]
  rcases src H 1 (opv F x) with _ | ⟨n,cs⟩
  · rfl
  · simp only [xFA]
    cases xLR cs <;> rfl
end
end Go.Abs
