/- The walk's words for maps,strings and rows of bytes. -/
import Derived.Test.YtkpbekcgigigkaaDoorAbsWalk
namespace Go.Abs
set_option linter.unusedVariables false
set_option linter.unusedSimpArgs false
section
variable {R : Rec} {F : List AV} {H : Heap}
theorem xTo : xAa R F H .mkmap = some (.mp H.length,H ++ [.mp []]) := rfl
def xXX (c : Bool) (z : AV) (H : Heap) : Option (Option AV) → Option (AV × Heap)
 | none => none
 | some none => some (if c then .tup [z,.bool false] else z,H)
 | some (some v) => some (if c then .tup [v,.bool true] else v,H)
def yDw (c : Bool) (z k : AV) (H : Heap) : Option (List (AV × AV)) → Option (AV × Heap)
 | none => none
 | some es => xXX c z H (xEo k es)
theorem xLZ (c : Bool) (z k : AV) (es : List (AV × AV)) : yDw c z k H (some es) = xXX c z H (xEo k es) := rfl
theorem xTp (c : Bool) (z : AV) : xXX c z H (some none) = some (if c then .tup [z,.bool false] else z,H) := rfl
theorem xP1 (c : Bool) (z v : AV) : xXX c z H (some (some v)) = some (if c then .tup [v,.bool true] else v,H) := rfl
theorem xTq (ks : List Nat) (c : Bool) (z : AV) (x k : Arg) : xAa R F H (.mlook ks c z x k) = if xBn ks (opv F k) = true then yDw c z (opv F k) H (xUq H (opv F x)) else none := by
 simp only [xAa]
 split
 ·cases xUq H (opv F x) with
  | none => rfl
  | some es =>
   simp only [yDw]
   rcases xEo (opv F k) es with _ | _ | v <;> simp only [xXX]
 ·rfl
def xQ2 : Option Blk → Option (List (AV × AV))
 | some (.mp es) => some es
 | _ => none
theorem xXY (id : Nat) : xUq H (.mp id) = xQ2 H[id]? := by
 simp only [xUq,xQ2]
 split <;> rename_i h <;> simp [h]
theorem xTr : xUq H .nilm = some [] := rfl
theorem xEx (es : List (AV × AV)) : xQ2 (some (.mp es)) = some es := rfl
theorem xL0 (k : IntKind) (n : Int) : xBn [0] (.int k n) = true := rfl
theorem xL1 (s : ByteArray) : xBn [1] (.str s) = true := rfl
def yGR (H : Heap) (id : Nat) : Option (List (AV × AV)) → Option (AV × Heap)
 | some es => some (.tup [],H.set id (.mp es))
 | none => none
theorem xP2 (id : Nat) (es : List (AV × AV)) : yGR H id (some es) = some (.tup [],H.set id (.mp es)) := rfl
def yGS (H : Heap) (k v : AV) (id : Nat) : Option (List (AV × AV)) → Option (AV × Heap)
 | some es => yGR H id (yA4 k v es)
 | none => none
theorem xJj (k v : AV) (id : Nat) (es : List (AV × AV)) : yGS H k v id (some es) = yGR H id (yA4 k v es) := rfl
def yGT (H : Heap) (k v : AV) : AV → Option (AV × Heap)
 | .mp id => yGS H k v id (xQ2 H[id]?)
 | _ => none
theorem xXZ (k v : AV) (id : Nat) : yGT H k v (.mp id) = yGS H k v id (xQ2 H[id]?) := rfl
theorem xX0 (ks : List Nat) (m k v : Arg) : xAa R F H (.mupd ks m k v) = if xBn ks (opv F k) = true then yGT H (opv F k) (opv F v) (opv F m) else none := by
 simp only [xAa]
 split
 ·cases opv F m <;> simp only [yGT]
  rename_i id
  split
  ·rename_i es h
   rw [h,xEx,xJj]
   cases yA4 (opv F k) (opv F v) es <;> rfl
  ·rename_i h
   have : xQ2 H[id]? = none := by
    unfold xQ2
    split
    ·rename_i es he; exact absurd he (h es)
    ·rfl
   rw [this]; rfl
 ·rfl
def yDx (H : Heap) (id : Nat) : Option (AV × Nat × List (AV × AV)) → Option (AV × Heap)
 | some (v,n,es) => some (.tup [v,.int .i64 (n : Nat)],H.set id (.mp es))
 | none => none
theorem xB4 (id n : Nat) (v : AV) (es : List (AV × AV)) : yDx H id (some (v,n,es)) = some (.tup [v,.int .i64 (n : Nat)],H.set id (.mp es)) := rfl
def yDy (H : Heap) (k z : AV) (id : Nat) : Option (List (AV × AV)) → Option (AV × Heap)
 | some es => yDx H id (xE6 k z es 0)
 | none => none
theorem xBS (k z : AV) (id : Nat) (es : List (AV × AV)) : yDy H k z id (some es) = yDx H id (xE6 k z es 0) := rfl
def yDz (H : Heap) (k z : AV) : AV → Option (AV × Heap)
 | .mp id => yDy H k z id (xQ2 H[id]?)
 | _ => none
theorem xC5 (k z : AV) (id : Nat) : yDz H k z (.mp id) = yDy H k z id (xQ2 H[id]?) := rfl
theorem xEy (ks : List Nat) (z : AV) (m k : Arg) : xAa R F H (.ment ks z m k) = if xBn ks (opv F k) = true then yDz H (opv F k) z (opv F m) else none := by
 simp only [xAa]
 split
 ·cases opv F m <;> simp only [yDz]
  rename_i id
  split
  ·rename_i es h
   rw [h,xEx,xBS]
   cases xE6 (opv F k) z es 0 <;> rfl
  ·rename_i h
   have : xQ2 H[id]? = none := by
    unfold xQ2
    split
    ·rename_i es he; exact absurd he (h es)
    ·rfl
   rw [this]; rfl
 ·rfl
def yGc (H : Heap) (id j : Nat) (v : AV) (es : List (AV × AV)) : Option (AV × AV) → Option (AV × Heap)
 | some e => some (.tup [],H.set id (.mp (es.set j (e.1,v))))
 | none => none
theorem xCr (id j : Nat) (v : AV) (es : List (AV × AV)) (e : AV × AV) : yGc H id j v es (some e) = some (.tup [],H.set id (.mp (es.set j (e.1,v)))) := rfl
def yEe (H : Heap) (id : Nat) (n : Int) (v : AV) : Option (List (AV × AV)) → Option (AV × Heap)
 | some es => if 0 ≤ n then yGc H id n.toNat v es es[n.toNat]? else none
 | none => none
theorem xJk (id j : Nat) (v : AV) (es : List (AV × AV)) : yEe H id (j : Nat) v (some es) = yGc H id j v es es[j]? := by
 simp only [yEe]
 rw [if_pos (by omega),Int.toNat_natCast]
def yGU (H : Heap) (v : AV) : AV → AV → Option (AV × Heap)
 | .mp id,.int .i64 n => yEe H id n v (xQ2 H[id]?)
 | _,_ => none
theorem xEz (id : Nat) (n : Int) (v : AV) : yGU H v (.mp id) (.int .i64 n) = yEe H id n v (xQ2 H[id]?) := rfl
theorem xCs (m s v : Arg) : xAa R F H (.mstore m s v) = yGU H (opv F v) (opv F m) (opv F s) := by
 simp only [xAa]
 unfold yGU
 split
 ·rename_i id n e1 e2
  rw [e1,e2]
  dsimp only
  split
  ·rename_i es h
   rw [h,xEx]
   simp only [yEe]
   split
   ·cases es[n.toNat]? <;> rfl
   ·rfl
  ·rename_i h
   have : xQ2 H[id]? = none := by
    unfold xQ2
    split
    ·rename_i es he; exact absurd he (h es)
    ·rfl
   rw [this]; rfl
 ·rename_i h
  split
  ·rename_i id n e1 e2
   exact absurd e2 (h id n e1)
  ·rfl
theorem xCl (ks : List Nat) (cs : List AV) : xBn (2 :: ks) (.agg cs) = xAW ks cs := rfl
theorem xBY : xAW [] [] = true := rfl
theorem xDJ (ks : List Nat) (k : IntKind) (n : Int) (cs : List AV) : xAW (0 :: ks) (.int k n :: cs) = xAW ks cs := rfl
theorem xFc (ks : List Nat) (s : ByteArray) (cs : List AV) : xAW (1 :: ks) (.str s :: cs) = xAW ks cs := rfl
def yHF (H : Heap) : Option (List (AV × AV)) → Option (AV × Heap)
 | some es => some (.int .i64 es.length,H)
 | none => none
theorem xP3 (es : List (AV × AV)) : yHF H (some es) = some (.int .i64 es.length,H) := rfl
theorem xX1 (x : Arg) : xAa R F H (.mlen x) = yHF H (xUq H (opv F x)) := by
 simp only [xAa]
 cases xUq H (opv F x) <;> rfl
def yCa (fz : Bool) (H : Heap) : AV → Option (AV × Heap)
 | .str s => xDR fz false s.size 1 (xB2 s) H
 | _ => none
theorem xL2 (fz : Bool) (s : ByteArray) : yCa fz H (.str s) = xDR fz false s.size 1 (xB2 s) H := rfl
theorem xP4 (fz : Bool) (x : Arg) : xAa R F H (.sbytes fz x) = yCa fz H (opv F x) := by
 simp only [xAa]
 cases opv F x <;> rfl
def yDA (H : Heap) : Option (List UInt8) → Option (AV × Heap)
 | some bs => some (.str ⟨⟨bs⟩⟩,H)
 | none => none
theorem xL3 (bs : List UInt8) : yDA H (some bs) = some (.str ⟨⟨bs⟩⟩,H) := rfl
def yFs (H : Heap) : Option (Nat × List AV) → Option (AV × Heap)
 | some (_,cs) => yDA H (xJB cs)
 | none => none
theorem xGt (n : Nat) (cs : List AV) : yFs H (some (n,cs)) = yDA H (xJB cs) := rfl
theorem xX2 (x : Arg) : xAa R F H (.bstr x) = yFs H (src H 1 (opv F x)) := by
 simp only [xAa]
 rcases src H 1 (opv F x) with _ | ⟨n,cs⟩
 ·rfl
 ·simp only [xGt]
  cases xJB cs <;> rfl
end
end Go.Abs
