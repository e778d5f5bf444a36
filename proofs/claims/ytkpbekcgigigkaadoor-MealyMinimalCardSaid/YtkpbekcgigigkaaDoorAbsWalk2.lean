/- The walk's words for maps,strings and rows of bytes. -/
import Derived.Test.YtkpbekcgigigkaaDoorAbsWalk
namespace Go.Abs
set_option linter.unusedVariables false
set_option linter.unusedSimpArgs false
section
variable {R : Rec} {F : List AV} {H : Heap}
theorem xRh : xAa R F H .mkmap = some (.mp H.length,H ++ [.mp []]) := rfl
def xVA (c : Bool) (z : AV) (H : Heap) : Option (Option AV) → Option (AV × Heap)
  | none => none
  | some none => some (if c then .tup [z,.bool false] else z,H)
  | some (some v) => some (if c then .tup [v,.bool true] else v,H)
def yAi (c : Bool) (z k : AV) (H : Heap) : Option (List (AV × AV)) → Option (AV × Heap)
  | none => none
  | some es => xVA c z H (xDT k es)
theorem xKP (c : Bool) (z k : AV) (es : List (AV × AV)) : yAi c z k H (some es) = xVA c z H (xDT k es) := rfl
theorem xRi (c : Bool) (z : AV) : xVA c z H (some none) = some (if c then .tup [z,.bool false] else z,H) := rfl
theorem xOj (c : Bool) (z v : AV) : xVA c z H (some (some v)) = some (if c then .tup [v,.bool true] else v,H) := rfl
theorem xRj (ks : List Nat) (c : Bool) (z : AV) (x k : Arg) : xAa R F H (.mlook ks c z x k) = if xBp ks (opv F k) = true then yAi c z (opv F k) H (xSc H (opv F x)) else none := by
  simp only [xAa]
  split
  · cases xSc H (opv F x) with
    | none => rfl
    | some es =>
      simp only [yAi]
      rcases xDT (opv F k) es with _ | _ | v <;> simp only [xVA]
  · rfl
def xPc : Option Blk → Option (List (AV × AV))
  | some (.mp es) => some es
  | _ => none
theorem xVB (id : Nat) : xSc H (.mp id) = xPc H[id]? := by
  simp only [xSc,xPc]
  split <;> rename_i h <;> simp [h]
theorem xRk : xSc H .nilm = some [] := rfl
theorem xD0 (es : List (AV × AV)) : xPc (some (.mp es)) = some es := rfl
theorem xKQ (k : IntKind) (n : Int) : xBp [0] (.int k n) = true := rfl
theorem xKR (s : ByteArray) : xBp [1] (.str s) = true := rfl
def yCU (H : Heap) (id : Nat) : Option (List (AV × AV)) → Option (AV × Heap)
  | some es => some (.tup [],H.set id (.mp es))
  | none => none
theorem xOk (id : Nat) (es : List (AV × AV)) : yCU H id (some es) = some (.tup [],H.set id (.mp es)) := rfl
def yCV (H : Heap) (k v : AV) (id : Nat) : Option (List (AV × AV)) → Option (AV × Heap)
  | some es => yCU H id (xXW k v es)
  | none => none
theorem xIu (k v : AV) (id : Nat) (es : List (AV × AV)) : yCV H k v id (some es) = yCU H id (xXW k v es) := rfl
def yCW (H : Heap) (k v : AV) : AV → Option (AV × Heap)
  | .mp id => yCV H k v id (xPc H[id]?)
  | _ => none
theorem xVC (k v : AV) (id : Nat) : yCW H k v (.mp id) = yCV H k v id (xPc H[id]?) := rfl
theorem xVD (ks : List Nat) (m k v : Arg) : xAa R F H (.mupd ks m k v) = if xBp ks (opv F k) = true then yCW H (opv F k) (opv F v) (opv F m) else none := by
  simp only [xAa]
  split
  · cases opv F m <;> simp only [yCW]
    rename_i id
    split
    · rename_i es h
      rw [h,xD0,xIu]
      cases xXW (opv F k) (opv F v) es <;> rfl
    · rename_i h
      have : xPc H[id]? = none := by
        unfold xPc
        split
        · rename_i es he; exact absurd he (h es)
        · rfl
      rw [this]; rfl
  · rfl
def yAj (H : Heap) (id : Nat) : Option (AV × Nat × List (AV × AV)) → Option (AV × Heap)
  | some (v,n,es) => some (.tup [v,.int .i64 (n : Nat)],H.set id (.mp es))
  | none => none
theorem xBm (id n : Nat) (v : AV) (es : List (AV × AV)) : yAj H id (some (v,n,es)) = some (.tup [v,.int .i64 (n : Nat)],H.set id (.mp es)) := rfl
def yAk (H : Heap) (k z : AV) (id : Nat) : Option (List (AV × AV)) → Option (AV × Heap)
  | some es => yAj H id (xEx k z es 0)
  | none => none
theorem xBc (k z : AV) (id : Nat) (es : List (AV × AV)) : yAk H k z id (some es) = yAj H id (xEx k z es 0) := rfl
def yAl (H : Heap) (k z : AV) : AV → Option (AV × Heap)
  | .mp id => yAk H k z id (xPc H[id]?)
  | _ => none
theorem xB9 (k z : AV) (id : Nat) : yAl H k z (.mp id) = yAk H k z id (xPc H[id]?) := rfl
theorem xCE (ks : List Nat) (z : AV) (m k : Arg) : xAa R F H (.ment ks z m k) = if xBp ks (opv F k) = true then yAl H (opv F k) z (opv F m) else none := by
  simp only [xAa]
  split
  · cases opv F m <;> simp only [yAl]
    rename_i id
    split
    · rename_i es h
      rw [h,xD0,xBc]
      cases xEx (opv F k) z es 0 <;> rfl
    · rename_i h
      have : xPc H[id]? = none := by
        unfold xPc
        split
        · rename_i es he; exact absurd he (h es)
        · rfl
      rw [this]; rfl
  · rfl
def yCb (H : Heap) (id j : Nat) (v : AV) (es : List (AV × AV)) : Option (AV × AV) → Option (AV × Heap)
  | some e => some (.tup [],H.set id (.mp (es.set j (e.1,v))))
  | none => none
theorem xBE (id j : Nat) (v : AV) (es : List (AV × AV)) (e : AV × AV) : yCb H id j v es (some e) = some (.tup [],H.set id (.mp (es.set j (e.1,v)))) := rfl
def yAE (H : Heap) (id : Nat) (n : Int) (v : AV) : Option (List (AV × AV)) → Option (AV × Heap)
  | some es => if 0 ≤ n then yCb H id n.toNat v es es[n.toNat]? else none
  | none => none
theorem xBF (id j : Nat) (v : AV) (es : List (AV × AV)) : yAE H id (j : Nat) v (some es) = yCb H id j v es es[j]? := by
  simp only [yAE]
  rw [if_pos (by omega),Int.toNat_natCast]
def yCX (H : Heap) (v : AV) : AV → AV → Option (AV × Heap)
  | .mp id,.int .i64 n => yAE H id n v (xPc H[id]?)
  | _,_ => none
theorem xCF (id : Nat) (n : Int) (v : AV) : yCX H v (.mp id) (.int .i64 n) = yAE H id n v (xPc H[id]?) := rfl
theorem xBG (m s v : Arg) : xAa R F H (.mstore m s v) = yCX H (opv F v) (opv F m) (opv F s) := by
  simp only [xAa]
  unfold yCX
  split
  · rename_i id n e1 e2
    rw [e1,e2]
    dsimp only
    split
    · rename_i es h
      rw [h,xD0]
      simp only [yAE]
      split
      · cases es[n.toNat]? <;> rfl
      · rfl
    · rename_i h
      have : xPc H[id]? = none := by
        unfold xPc
        split
        · rename_i es he; exact absurd he (h es)
        · rfl
      rw [this]; rfl
  · rename_i h
    split
    · rename_i id n e1 e2
      exact absurd e2 (h id n e1)
    · rfl
theorem xBn (ks : List Nat) (cs : List AV) : xBp (2 :: ks) (.agg cs) = xA1 ks cs := rfl
theorem xA7 : xA1 [] [] = true := rfl
theorem xA8 (ks : List Nat) (k : IntKind) (n : Int) (cs : List AV) : xA1 (0 :: ks) (.int k n :: cs) = xA1 ks cs := rfl
theorem xEC (ks : List Nat) (s : ByteArray) (cs : List AV) : xA1 (1 :: ks) (.str s :: cs) = xA1 ks cs := rfl
def yDw (H : Heap) : Option (List (AV × AV)) → Option (AV × Heap)
  | some es => some (.int .i64 es.length,H)
  | none => none
theorem xOl (es : List (AV × AV)) : yDw H (some es) = some (.int .i64 es.length,H) := rfl
theorem xVE (x : Arg) : xAa R F H (.mlen x) = yDw H (xSc H (opv F x)) := by
  simp only [xAa]
  cases xSc H (opv F x) <;> rfl
def xY4 (fz : Bool) (H : Heap) : AV → Option (AV × Heap)
  | .str s => xDv fz false s.size 1 (xBX s) H
  | _ => none
theorem xKS (fz : Bool) (s : ByteArray) : xY4 fz H (.str s) = xDv fz false s.size 1 (xBX s) H := rfl
theorem xOm (fz : Bool) (x : Arg) : xAa R F H (.sbytes fz x) = xY4 fz H (opv F x) := by
  simp only [xAa]
  cases opv F x <;> rfl
def yAm (H : Heap) : Option (List UInt8) → Option (AV × Heap)
  | some bs => some (.str ⟨⟨bs⟩⟩,H)
  | none => none
theorem xFQ (bs : List UInt8) : yAm H (some bs) = some (.str ⟨⟨bs⟩⟩,H) := rfl
def yBP (H : Heap) : Option (Nat × List AV) → Option (AV × Heap)
  | some (_,cs) => yAm H (xIM cs)
  | none => none
theorem xEc (n : Nat) (cs : List AV) : yBP H (some (n,cs)) = yAm H (xIM cs) := rfl
theorem xPd (x : Arg) : xAa R F H (.bstr x) = yBP H (src H 1 (opv F x)) := by
  simp only [xAa]
  rcases src H 1 (opv F x) with _ | ⟨n,cs⟩
  · rfl
  · simp only [xEc]
    cases xIM cs <;> rfl
end
end Go.Abs
