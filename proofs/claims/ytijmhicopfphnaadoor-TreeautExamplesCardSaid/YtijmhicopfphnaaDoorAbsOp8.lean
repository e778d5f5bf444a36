/- Maps; strings and rows of bytes. -/
import Derived.Test.YtijmhicopfphnaaDoorAbsOp7
import Derived.MapKept
import Derived.ChangeKeysEq
import Derived.WideKeyRuns
import Derived.Laws.BytesString
import Derived.Lib.ConvBytes
namespace Go.Abs
set_option linter.unusedVariables false
set_option linter.unusedSimpArgs false
open Go.RowKit Go.MapKept
section
variable {chk : Code → ACode → Bool} {P : Program} {o : Oper} {a : Act} {im : Im} {io : Io} {H H' : Heap} {w : World} {F : List AV} {R : Rec} {v : AV}
theorem xVH (hc : xAI P o .mkmap = true) (hs : Sim chk im io H w) (hF : FRep im io F a) (h : xAc R F H .mkmap = some (v,H')) : Good chk P o a im io w v H' := by simp [xAI] at hc
theorem xVI {ks : List Nat} {comma : Bool} {z : AV} {x k : Arg} (hc : xAI P o (.mlook ks comma z x k) = true) (hs : Sim chk im io H w) (hF : FRep im io F a) (h : xAc R F H (.mlook ks comma z x k) = some (v,H')) : Good chk P o a im io w v H' := by simp [xAI] at hc
theorem xWN {ks : List Nat} {z : AV} {m k : Arg} (hc : xAI P o (.ment ks z m k) = true) (hs : Sim chk im io H w) (hF : FRep im io F a) (h : xAc R F H (.ment ks z m k) = some (v,H')) : Good chk P o a im io w v H' := by simp [xAI] at hc
theorem xTp {m s x : Arg} (hc : xAI P o (.mstore m s x) = true) (hs : Sim chk im io H w) (hF : FRep im io F a) (h : xAc R F H (.mstore m s x) = some (v,H')) : Good chk P o a im io w v H' := by simp [xAI] at hc
theorem xWO {ks : List Nat} {m k x : Arg} (hc : xAI P o (.mupd ks m k x) = true) (hs : Sim chk im io H w) (hF : FRep im io F a) (h : xAc R F H (.mupd ks m k x) = some (v,H')) : Good chk P o a im io w v H' := by simp [xAI] at hc
theorem xWP {x : Arg} (hc : xAI P o (.mlen x) = true) (hs : Sim chk im io H w) (hF : FRep im io F a) (h : xAc R F H (.mlen x) = some (v,H')) : Good chk P o a im io w v H' := by simp [xAI] at hc
theorem xWQ {neg : Bool} {x : Arg} (hc : xAI P o (.mnil neg x) = true) (hs : Sim chk im io H w) (hF : FRep im io F a) (h : xAc R F H (.mnil neg x) = some (v,H')) : Good chk P o a im io w v H' := by simp [xAI] at hc
theorem xWR {neg : Bool} {x : Arg} (hc : xAI P o (.pnil neg x) = true) (hs : Sim chk im io H w) (hF : FRep im io F a) (h : xAc R F H (.pnil neg x) = some (v,H')) : Good chk P o a im io w v H' := by simp [xAI] at hc
theorem xWS {x y : Arg} (hc : xAI P o (.sadd x y) = true) (hs : Sim chk im io H w) (hF : FRep im io F a) (h : xAc R F H (.sadd x y) = some (v,H')) : Good chk P o a im io w v H' := by simp [xAI] at hc
theorem xWT {x : Arg} (hc : xAI P o (.bstr x) = true) (hs : Sim chk im io H w) (hF : FRep im io F a) (h : xAc R F H (.bstr x) = some (v,H')) : Good chk P o a im io w v H' := by simp [xAI] at hc
theorem xTq {fz : Bool} {x : Arg} (hc : xAI P o (.sbytes fz x) = true) (hs : Sim chk im io H w) (hF : FRep im io F a) (h : xAc R F H (.sbytes fz x) = some (v,H')) : Good chk P o a im io w v H' := by simp [xAI] at hc
end
end Go.Abs
