/- The walk's words for maps,strings and rows of bytes. -/
import Derived.Test.YtkpbekcgigigkaaDoorAbsWalk
namespace Go.Abs
set_option linter.unusedVariables false
set_option linter.unusedSimpArgs false
section
variable {R : Rec} {F : List AV} {H : Heap}
theorem xP0 : xAa R F H .mkmap = some (.mp H.length,H ++ [.mp []]) := rfl
def xTE (c : Bool) (z : AV) (H : Heap) : Option (Option AV) → Option (AV × Heap)
  | none => none
  | some none => some (if c then .tup [z,.bool false] else z,H)
  | some (some v) => some (if c then .tup [v,.bool true] else v,H)
def xXE (c : Bool) (z k : AV) (H : Heap) : Option (List (AV × AV)) → Option (AV × Heap)
  | none => none
  | some es => xTE c z H (xEC k es)
theorem xKb (c : Bool) (z k : AV) (es : List (AV × AV)) : xXE c z k H (some es) = xTE c z H (xEC k es) := rfl
theorem xP1 (c : Bool) (z : AV) : xTE c z H (some none) = some (if c then .tup [z,.bool false] else z,H) := rfl
theorem xNp (c : Bool) (z v : AV) : xTE c z H (some (some v)) = some (if c then .tup [v,.bool true] else v,H) := rfl
theorem xP2 (ks : List Nat) (c : Bool) (z : AV) (x k : Arg) : xAa R F H (.mlook ks c z x k) = if xA7 ks (opv F k) = true then xXE c z (opv F k) H (xQx H (opv F x)) else none := by
  simp only [xAa]
  split
  · cases xQx H (opv F x) with
    | none => rfl
    | some es =>
      simp only [xXE]
      rcases xEC (opv F k) es with _ | _ | v <;> simp only [xTE]
  · rfl
def xN4 : Option Blk → Option (List (AV × AV))
  | some (.mp es) => some es
  | _ => none
theorem xTF (id : Nat) : xQx H (.mp id) = xN4 H[id]? := by
  simp only [xQx,xN4]
  split <;> rename_i h <;> simp [h]
theorem xP3 : xQx H .nilm = some [] := rfl
theorem xDJ (es : List (AV × AV)) : xN4 (some (.mp es)) = some es := rfl
theorem xKc (k : IntKind) (n : Int) : xA7 [0] (.int k n) = true := rfl
theorem xKd (s : ByteArray) : xA7 [1] (.str s) = true := rfl
def yAn (H : Heap) (id : Nat) : Option (List (AV × AV)) → Option (AV × Heap)
  | some es => some (.tup [],H.set id (.mp es))
  | none => none
theorem xNq (id : Nat) (es : List (AV × AV)) : yAn H id (some es) = some (.tup [],H.set id (.mp es)) := rfl
def yAo (H : Heap) (k v : AV) (id : Nat) : Option (List (AV × AV)) → Option (AV × Heap)
  | some es => yAn H id (xVl k v es)
  | none => none
theorem xIa (k v : AV) (id : Nat) (es : List (AV × AV)) : yAo H k v id (some es) = yAn H id (xVl k v es) := rfl
def yAp (H : Heap) (k v : AV) : AV → Option (AV × Heap)
  | .mp id => yAo H k v id (xN4 H[id]?)
  | _ => none
theorem xTG (k v : AV) (id : Nat) : yAp H k v (.mp id) = yAo H k v id (xN4 H[id]?) := rfl
theorem xTH (ks : List Nat) (m k v : Arg) : xAa R F H (.mupd ks m k v) = if xA7 ks (opv F k) = true then yAp H (opv F k) (opv F v) (opv F m) else none := by
  simp only [xAa]
  split
  · cases opv F m <;> simp only [yAp]
    rename_i id
    split
    · rename_i es h
      rw [h,xDJ,xIa]
      cases xVl (opv F k) (opv F v) es <;> rfl
    · rename_i h
      have : xN4 H[id]? = none := by
        unfold xN4
        split
        · rename_i es he; exact absurd he (h es)
        · rfl
      rw [this]; rfl
  · rfl
def xXF (H : Heap) (id : Nat) : Option (AV × Nat × List (AV × AV)) → Option (AV × Heap)
  | some (v,n,es) => some (.tup [v,.int .i64 (n : Nat)],H.set id (.mp es))
  | none => none
theorem xDV (id n : Nat) (v : AV) (es : List (AV × AV)) : xXF H id (some (v,n,es)) = some (.tup [v,.int .i64 (n : Nat)],H.set id (.mp es)) := rfl
def xXG (H : Heap) (k z : AV) (id : Nat) : Option (List (AV × AV)) → Option (AV × Heap)
  | some es => xXF H id (xF8 k z es 0)
  | none => none
theorem xCT (k z : AV) (id : Nat) (es : List (AV × AV)) : xXG H k z id (some es) = xXF H id (xF8 k z es 0) := rfl
def xXH (H : Heap) (k z : AV) : AV → Option (AV × Heap)
  | .mp id => xXG H k z id (xN4 H[id]?)
  | _ => none
theorem xGn (k z : AV) (id : Nat) : xXH H k z (.mp id) = xXG H k z id (xN4 H[id]?) := rfl
theorem xK4 (ks : List Nat) (z : AV) (m k : Arg) : xAa R F H (.ment ks z m k) = if xA7 ks (opv F k) = true then xXH H (opv F k) z (opv F m) else none := by
  simp only [xAa]
  split
  · cases opv F m <;> simp only [xXH]
    rename_i id
    split
    · rename_i es h
      rw [h,xDJ,xCT]
      cases xF8 (opv F k) z es 0 <;> rfl
    · rename_i h
      have : xN4 H[id]? = none := by
        unfold xN4
        split
        · rename_i es he; exact absurd he (h es)
        · rfl
      rw [this]; rfl
  · rfl
def xZv (H : Heap) (id j : Nat) (v : AV) (es : List (AV × AV)) : Option (AV × AV) → Option (AV × Heap)
  | some e => some (.tup [],H.set id (.mp (es.set j (e.1,v))))
  | none => none
theorem xE4 (id j : Nat) (v : AV) (es : List (AV × AV)) (e : AV × AV) : xZv H id j v es (some e) = some (.tup [],H.set id (.mp (es.set j (e.1,v)))) := rfl
def xXN (H : Heap) (id : Nat) (n : Int) (v : AV) : Option (List (AV × AV)) → Option (AV × Heap)
  | some es => if 0 ≤ n then xZv H id n.toNat v es es[n.toNat]? else none
  | none => none
theorem xE5 (id j : Nat) (v : AV) (es : List (AV × AV)) : xXN H id (j : Nat) v (some es) = xZv H id j v es es[j]? := by
  simp only [xXN]
  rw [if_pos (by omega),Int.toNat_natCast]
def yAq (H : Heap) (v : AV) : AV → AV → Option (AV × Heap)
  | .mp id,.int .i64 n => xXN H id n v (xN4 H[id]?)
  | _,_ => none
theorem xK5 (id : Nat) (n : Int) (v : AV) : yAq H v (.mp id) (.int .i64 n) = xXN H id n v (xN4 H[id]?) := rfl
theorem xE6 (m s v : Arg) : xAa R F H (.mstore m s v) = yAq H (opv F v) (opv F m) (opv F s) := by
  simp only [xAa]
  unfold yAq
  split
  · rename_i id n e1 e2
    rw [e1,e2]
    dsimp only
    split
    · rename_i es h
      rw [h,xDJ]
      simp only [xXN]
      split
      · cases es[n.toNat]? <;> rfl
      · rfl
    · rename_i h
      have : xN4 H[id]? = none := by
        unfold xN4
        split
        · rename_i es he; exact absurd he (h es)
        · rfl
      rw [this]; rfl
  · rename_i h
    split
    · rename_i id n e1 e2
      exact absurd e2 (h id n e1)
    · rfl
theorem xDW (ks : List Nat) (cs : List AV) : xA7 (2 :: ks) (.agg cs) = xAV ks cs := rfl
theorem xC6 : xAV [] [] = true := rfl
theorem xC7 (ks : List Nat) (k : IntKind) (n : Int) (cs : List AV) : xAV (0 :: ks) (.int k n :: cs) = xAV ks cs := rfl
def yAJ (H : Heap) : Option (List (AV × AV)) → Option (AV × Heap)
  | some es => some (.int .i64 es.length,H)
  | none => none
theorem xNr (es : List (AV × AV)) : yAJ H (some es) = some (.int .i64 es.length,H) := rfl
theorem xTI (x : Arg) : xAa R F H (.mlen x) = yAJ H (xQx H (opv F x)) := by
  simp only [xAa]
  cases xQx H (opv F x) <;> rfl
def xWo (fz : Bool) (H : Heap) : AV → Option (AV × Heap)
  | .str s => xDb fz false s.size 1 (xBA s) H
  | _ => none
theorem xKe (fz : Bool) (s : ByteArray) : xWo fz H (.str s) = xDb fz false s.size 1 (xBA s) H := rfl
theorem xNs (fz : Bool) (x : Arg) : xAa R F H (.sbytes fz x) = xWo fz H (opv F x) := by
  simp only [xAa]
  cases opv F x <;> rfl
def xXI (H : Heap) : Option (List UInt8) → Option (AV × Heap)
  | some bs => some (.str ⟨⟨bs⟩⟩,H)
  | none => none
theorem xKf (bs : List UInt8) : xXI H (some bs) = some (.str ⟨⟨bs⟩⟩,H) := rfl
def xZe (H : Heap) : Option (Nat × List AV) → Option (AV × Heap)
  | some (_,cs) => xXI H (xLH cs)
  | none => none
theorem xFw (n : Nat) (cs : List AV) : xZe H (some (n,cs)) = xXI H (xLH cs) := rfl
theorem xTJ (x : Arg) : xAa R F H (.bstr x) = xZe H (src H 1 (opv F x)) := by
  simp only [xAa]
  rcases src H 1 (opv F x) with _ | ⟨n,cs⟩
  · rfl
  · simp only [xFw]
    cases xLH cs <;> rfl
end
end Go.Abs
