/- The reference's parser: end,must,one,term,lower. -/
import Derived.Test.YtdheandekcpieaaDoorAbsBun
import Derived.Test.YtdheandekcpieaaDoorAMQ
namespace Go.Abs.Events
open Go Go.Abs
set_option maxHeartbeats 8000000
set_option linter.unusedSimpArgs false
set_option linter.unusedVariables false
theorem yC6 (caps args : List AV) (H : Heap) : L.icall (.func 74 caps) args H = xAS L a74 (args ++ caps) H := xAk rfl caps args H
theorem yBv (caps args : List AV) (H : Heap) : L.icall (.func 75 caps) args H = xAS L a75 (args ++ caps) H := xAk rfl caps args H
theorem xZl (caps args : List AV) (H : Heap) : L.icall (.func 76 caps) args H = xAS L a76 (args ++ caps) H := xAk rfl caps args H
theorem xUA (caps args : List AV) (H : Heap) : L.icall (.func 77 caps) args H = xAS L a77 (args ++ caps) H := xAk rfl caps args H
theorem yDF (caps args : List AV) (H : Heap) : L.icall (.func 78 caps) args H = xAS L a78 (args ++ caps) H := xAk rfl caps args H
theorem yEO (caps args : List AV) (H : Heap) : L.icall (.func 80 caps) args H = xAS L a80 (args ++ caps) H := xAk rfl caps args H
theorem yBw (caps args : List AV) (H : Heap) : L.icall (.func 81 caps) args H = xAS L a81 (args ++ caps) H := xAk rfl caps args H
theorem xZm (caps args : List AV) (H : Heap) : L.icall (.func 43 caps) args H = xAS L a43 (args ++ caps) H := xAk rfl caps args H
theorem xFq {R : Rec} {F : List AV} {H : Heap} (x i : Arg) : xA9 R F H (.sidx x i) = xKz H (xAb R F H (.sidx x i)) := xEo _ rfl
abbrev rsB (S : List UInt8) (at_ : Nat) (lv : AV) (many e : Nat) : Blk := .cells false false [zS S,.int .i64 (at_ : Nat),lv,.int .i64 (many : Nat),.int .i64 (e : Nat)]
def RS (G : Heap) (rb : Nat) (S : List UInt8) (at_ : Nat) (lv : AV) (many e : Nat) : Prop := G[rb]? = some (rsB S at_ lv many e)
section
variable {G : Heap} {rb at_ many e : Nat} {S : List UInt8} {lv : AV} {c : UInt8}
theorem xD7 (h : RS G rb S at_ lv many e) (he : e ≠ 0) : L.icall (.func 74 []) [.ptr rb 0] G = some (.bool true,G) := by
 have heI : (((e : Nat) : Int) = 0) = False := by simp; omega
 unfold RS at h
 rw [yC6,a74,xAj]
 simp (maxSteps := 30000000) (disch := first|exact D5|fail) only [WB,Nat.reduceSub,h,heI,↓reduceIte,xAh]
theorem xB5 (h : RS G rb S at_ lv many 0) (hlt : at_ < S.length) : L.icall (.func 74 []) [.ptr rb 0] G = some (.bool false,G) := by
 have hsz : (⟨S.toArray⟩ : ByteArray).size = S.length := by simp [ByteArray.size]
 have hc : (((S.length : Nat) : Int) ≤ (at_ : Nat)) = False := by simp; omega
 have h' : G[rb]? = some (.cells false false [zS S,.int .i64 (at_ : Nat),lv,.int .i64 (many : Nat),.int .i64 0]) := h
 rw [yC6,a74,xAj]
 simp (maxSteps := 30000000) (disch := first|exact D5|fail) only [WB,Nat.reduceSub,h',↓reduceIte,WA,hsz,xAh,hc]
theorem xD8 (h : RS G rb S at_ lv many 0) (hge : S.length ≤ at_) : L.icall (.func 74 []) [.ptr rb 0] G = some (.bool true,G.set rb (rsB S at_ lv many 3)) := by
 have hsz : (⟨S.toArray⟩ : ByteArray).size = S.length := by simp [ByteArray.size]
 have hc : (((S.length : Nat) : Int) ≤ (at_ : Nat)) = True := by simp; omega
 have h' : G[rb]? = some (.cells false false [zS S,.int .i64 (at_ : Nat),lv,.int .i64 (many : Nat),.int .i64 0]) := h
 have lo := xAp h'
 rw [yC6,a74,xAj]
 simp (maxSteps := 30000000) (disch := first|exact D5|fail) only [WB,Nat.reduceSub,h',↓reduceIte,WA,hsz,xAh,hc,AV.cells,Nat.reduceAdd,xDD,Int.reduceEq]
 rfl
theorem xJ2 (h : RS G rb S at_ lv many e) (he : e ≠ 0) : L.icall (.func 81 []) [.ptr rb 0,.int .u8 (c.toNat : Nat)] G = some (.tup [],G) := by
 have hn := xD7 h he
 rw [yBw,a81,xAj]
 simp (disch := omega) only [WB,Nat.reduceAdd,Nat.reduceSub,hn,↓reduceIte]
theorem xQH (h : RS G rb S at_ lv many 0) (hge : S.length ≤ at_) : L.icall (.func 81 []) [.ptr rb 0,.int .u8 (c.toNat : Nat)] G = some (.tup [],G.set rb (rsB S at_ lv many 3)) := by
 have hn := xD8 h hge
 rw [yBw,a81,xAj]
 simp (disch := omega) only [WB,Nat.reduceAdd,Nat.reduceSub,hn,↓reduceIte]
theorem xFr (h : RS G rb S at_ lv many 0) (hS : S.length ≤ 4096) (hc : S[at_]? = some c) : L.icall (.func 81 []) [.ptr rb 0,.int .u8 (c.toNat : Nat)] G = some (.tup [],G.set rb (rsB S (at_ + 1) lv many 0)) := by
 have hlt : at_ < S.length := (List.getElem?_eq_some_iff.1 hc).1
 have hn := xB5 h hlt
 have hs := fun H => xBC H hc
 have h' : G[rb]? = some (.cells false false [zS S,.int .i64 (at_ : Nat),lv,.int .i64 (many : Nat),.int .i64 0]) := h
 have lo := xAp h'
 rw [yBw,a81,xAj]
 simp (maxSteps := 30000000) (disch := first|exact D5|fail) only [WB,Nat.reduceAdd,Nat.reduceSub,hn,↓reduceIte,h',xFq,xAK,hs,xAh,AV.cells]
 rfl
theorem xQI {d : UInt8} (h : RS G rb S at_ lv many 0) (hS : S.length ≤ 4096) (hd : S[at_]? = some d) (hne : d ≠ c) : L.icall (.func 81 []) [.ptr rb 0,.int .u8 (c.toNat : Nat)] G = some (.tup [],G.set rb (rsB S at_ lv many 2)) := by
 have hlt : at_ < S.length := (List.getElem?_eq_some_iff.1 hd).1
 have hn := xB5 h hlt
 have hs := fun H => xBC H hd
 have hq : (((d.toNat : Nat) : Int) = (c.toNat : Nat)) = False := by
  simp only [eq_iff_iff,iff_false]
  intro e
  exact hne (UInt8.toNat_inj.1 (by omega))
 have h' : G[rb]? = some (.cells false false [zS S,.int .i64 (at_ : Nat),lv,.int .i64 (many : Nat),.int .i64 0]) := h
 have lo := xAp h'
 rw [yBw,a81,xAj]
 simp (maxSteps := 30000000) (disch := first|exact D5|fail) only [WB,Nat.reduceAdd,Nat.reduceSub,hn,↓reduceIte,h',xFq,xAK,hs,xAh,hq,AV.cells]
 rfl
def inR (a b a2 b2 : Nat) (c : UInt8) : Bool := (decide (a ≤ c.toNat) && decide (c.toNat ≤ b)) || (decide (a2 ≤ c.toNat) && decide (c.toNat ≤ b2))
theorem xUi {a b a2 b2 : Nat} (h : RS G rb S at_ lv many e) (he : e ≠ 0) : L.icall (.func 77 []) [.ptr rb 0,.int .u8 (a : Nat),.int .u8 (b : Nat),.int .u8 (a2 : Nat),.int .u8 (b2 : Nat)] G = some (.int .i64 0,G) := by
 have hn := xD7 h he
 have hm : L.icall (.func 81 []) [.ptr rb 0,.int .u8 32] G = some (.tup [],G) := xJ2 (c := 32) h he
 rw [xUA,a77,xAj]
 simp (disch := omega) only [WB,Nat.reduceAdd,Nat.reduceSub,hm,hn,↓reduceIte]
theorem xQJ {a b a2 b2 : Nat} {G1 : Heap} {at1 e1 : Nat} (hm : L.icall (.func 81 []) [.ptr rb 0,.int .u8 32] G = some (.tup [],G1)) (h1 : RS G1 rb S at1 lv many e1) (he : e1 ≠ 0) : L.icall (.func 77 []) [.ptr rb 0,.int .u8 (a : Nat),.int .u8 (b : Nat),.int .u8 (a2 : Nat),.int .u8 (b2 : Nat)] G = some (.int .i64 0,G1) := by
 have hn := xD7 h1 he
 rw [xUA,a77,xAj]
 simp (disch := omega) only [WB,Nat.reduceAdd,Nat.reduceSub,hm,hn,↓reduceIte]
theorem xUj {a b a2 b2 : Nat} (h : RS G rb S at_ lv many 0) (hS : S.length ≤ 4096) (h32 : S[at_]? = some 32) (hge : S.length ≤ at_ + 1) : L.icall (.func 77 []) [.ptr rb 0,.int .u8 (a : Nat),.int .u8 (b : Nat),.int .u8 (a2 : Nat),.int .u8 (b2 : Nat)] G = some (.int .i64 0,G.set rb (rsB S (at_ + 1) lv many 3)) := by
 have hm : L.icall (.func 81 []) [.ptr rb 0,.int .u8 32] G = some (.tup [],G.set rb (rsB S (at_ + 1) lv many 0)) := xFr (c := 32) h hS h32
 have lo := xAp (show G[rb]? = some _ from h)
 have h1 : RS (G.set rb (rsB S (at_ + 1) lv many 0)) rb S (at_ + 1) lv many 0 := by unfold RS; rw [List.getElem?_set_self lo]
 have hn := xD8 h1 hge
 rw [List.set_set] at hn
 rw [xUA,a77,xAj]
 simp (disch := omega) only [WB,Nat.reduceAdd,Nat.reduceSub,hm,hn,↓reduceIte]
theorem xV3 {a b a2 b2 : Nat} (h : RS G rb S at_ lv many 0) (hS : S.length ≤ 4096) (h32 : S[at_]? = some 32) (hc : S[at_ + 1]? = some c) (hr : inR a b a2 b2 c = true) : L.icall (.func 77 []) [.ptr rb 0,.int .u8 (a : Nat),.int .u8 (b : Nat),.int .u8 (a2 : Nat),.int .u8 (b2 : Nat)] G = some (.int .i64 (c.toNat : Nat),G.set rb (rsB S (at_ + 2) lv many 0)) := by
 have hm : L.icall (.func 81 []) [.ptr rb 0,.int .u8 32] G = some (.tup [],G.set rb (rsB S (at_ + 1) lv many 0)) := xFr (c := 32) h hS h32
 have lo := xAp (show G[rb]? = some _ from h)
 have h1 : RS (G.set rb (rsB S (at_ + 1) lv many 0)) rb S (at_ + 1) lv many 0 := by unfold RS; rw [List.getElem?_set_self lo]
 have hlt : at_ + 1 < S.length := (List.getElem?_eq_some_iff.1 hc).1
 have hn := xB5 h1 hlt
 have hs := fun H => xBC H hc
 have hcl : c.toNat < 256 := c.toNat_lt
 have hw : IntKind.i64.wrap ((c.toNat : Nat) : Int) = (c.toNat : Nat) := xRH (by omega) (by omega)
 unfold RS at h1
 unfold inR at hr
 generalize c.toNat = n at *
 by_cases c1 : a ≤ n
 ·by_cases c2 : n ≤ b
  ·have k1 : (((a : Nat) : Int) ≤ (n : Nat)) = True := by simp; omega
   have k2 : (((n : Nat) : Int) ≤ (b : Nat)) = True := by simp; omega
   rw [xUA,a77,xAj]
   simp (maxSteps := 30000000) (disch := first|exact D5|fail) only [WB,Nat.reduceAdd,Nat.reduceSub,hm,hn,↓reduceIte,h1,xAh,xAK,hs,k1,k2,AV.cells,hw]
   rw [List.set_set]; rfl
  ·have c3 : a2 ≤ n ∧ n ≤ b2 := by simpa [c2] using hr
   have k1 : (((a : Nat) : Int) ≤ (n : Nat)) = True := by simp; omega
   have k2 : (((n : Nat) : Int) ≤ (b : Nat)) = False := by simp; omega
   have k3 : (((a2 : Nat) : Int) ≤ (n : Nat)) = True := by simp; omega
   have k4 : (((n : Nat) : Int) ≤ (b2 : Nat)) = True := by simp; omega
   rw [xUA,a77,xAj]
   simp (maxSteps := 30000000) (disch := first|exact D5|fail) only [WB,Nat.reduceAdd,Nat.reduceSub,hm,hn,↓reduceIte,h1,xAh,xAK,hs,k1,k2,k3,k4,AV.cells,hw]
   rw [List.set_set]; rfl
 ·have c3 : a2 ≤ n ∧ n ≤ b2 := by simpa [c1] using hr
  have k1 : (((a : Nat) : Int) ≤ (n : Nat)) = False := by simp; omega
  have k3 : (((a2 : Nat) : Int) ≤ (n : Nat)) = True := by simp; omega
  have k4 : (((n : Nat) : Int) ≤ (b2 : Nat)) = True := by simp; omega
  rw [xUA,a77,xAj]
  simp (maxSteps := 30000000) (disch := first|exact D5|fail) only [WB,Nat.reduceAdd,Nat.reduceSub,hm,hn,↓reduceIte,h1,xAh,xAK,hs,k1,k3,k4,AV.cells,hw]
  rw [List.set_set]; rfl
theorem xQK {a b a2 b2 : Nat} (h : RS G rb S at_ lv many 0) (hS : S.length ≤ 4096) (h32 : S[at_]? = some 32) (hc : S[at_ + 1]? = some c) (hr : inR a b a2 b2 c = false) : L.icall (.func 77 []) [.ptr rb 0,.int .u8 (a : Nat),.int .u8 (b : Nat),.int .u8 (a2 : Nat),.int .u8 (b2 : Nat)] G = some (.int .i64 0,G.set rb (rsB S (at_ + 1) lv many 1)) := by
 have hm : L.icall (.func 81 []) [.ptr rb 0,.int .u8 32] G = some (.tup [],G.set rb (rsB S (at_ + 1) lv many 0)) := xFr (c := 32) h hS h32
 have lo := xAp (show G[rb]? = some _ from h)
 have h1 : RS (G.set rb (rsB S (at_ + 1) lv many 0)) rb S (at_ + 1) lv many 0 := by unfold RS; rw [List.getElem?_set_self lo]
 have hlt : at_ + 1 < S.length := (List.getElem?_eq_some_iff.1 hc).1
 have hn := xB5 h1 hlt
 have hs := fun H => xBC H hc
 unfold RS at h1
 unfold inR at hr
 generalize c.toNat = n at *
 by_cases c1 : a ≤ n
 ·have c2 : ¬ n ≤ b := by intro q; simp [c1,q] at hr
  have k1 : (((a : Nat) : Int) ≤ (n : Nat)) = True := by simp; omega
  have k2 : (((n : Nat) : Int) ≤ (b : Nat)) = False := by simp; omega
  by_cases c3 : a2 ≤ n
  ·have c4 : ¬ n ≤ b2 := by intro q; simp [c3,q] at hr
   have k3 : (((a2 : Nat) : Int) ≤ (n : Nat)) = True := by simp; omega
   have k4 : (((n : Nat) : Int) ≤ (b2 : Nat)) = False := by simp; omega
   rw [xUA,a77,xAj]
   simp (maxSteps := 30000000) (disch := first|exact D5|fail) only [WB,Nat.reduceAdd,Nat.reduceSub,hm,hn,↓reduceIte,h1,xAh,xAK,hs,k1,k2,k3,k4,AV.cells]
   rw [List.set_set]; rfl
  ·have k3 : (((a2 : Nat) : Int) ≤ (n : Nat)) = False := by simp; omega
   rw [xUA,a77,xAj]
   simp (maxSteps := 30000000) (disch := first|exact D5|fail) only [WB,Nat.reduceAdd,Nat.reduceSub,hm,hn,↓reduceIte,h1,xAh,xAK,hs,k1,k2,k3,AV.cells]
   rw [List.set_set]; rfl
 ·have k1 : (((a : Nat) : Int) ≤ (n : Nat)) = False := by simp; omega
  by_cases c3 : a2 ≤ n
  ·have c4 : ¬ n ≤ b2 := by intro q; simp [c3,q] at hr
   have k3 : (((a2 : Nat) : Int) ≤ (n : Nat)) = True := by simp; omega
   have k4 : (((n : Nat) : Int) ≤ (b2 : Nat)) = False := by simp; omega
   rw [xUA,a77,xAj]
   simp (maxSteps := 30000000) (disch := first|exact D5|fail) only [WB,Nat.reduceAdd,Nat.reduceSub,hm,hn,↓reduceIte,h1,xAh,xAK,hs,k1,k3,k4,AV.cells]
   rw [List.set_set]; rfl
  ·have k3 : (((a2 : Nat) : Int) ≤ (n : Nat)) = False := by simp; omega
   rw [xUA,a77,xAj]
   simp (maxSteps := 30000000) (disch := first|exact D5|fail) only [WB,Nat.reduceAdd,Nat.reduceSub,hm,hn,↓reduceIte,h1,xAh,xAK,hs,k1,k3,AV.cells]
   rw [List.set_set]; rfl
end
theorem xIl (args : List AV) : L.pcall 100 args = xAE L xQR args := xAo rfl args
section
variable {G G1 : Heap} {rb at_ many e : Nat} {S : List UInt8} {lv : AV} {c : UInt8} {ins : Bool}
theorem xV4 {n : Nat} (h : L.icall (.func 77 []) [.ptr rb 0,.int .u8 48,.int .u8 55,.int .u8 120,.int .u8 122] G = some (.int .i64 (n : Nat),G1)) (hn : n < 120) : L.icall (.func 78 []) [.ptr rb 0] G = some (.int .i64 ((n : Nat) - 48),G1) := by
 have k : (((120 : Int)) ≤ (n : Nat)) = False := by simp; omega
 have hw : IntKind.i64.wrap (((n : Nat) : Int) - 48) = (n : Nat) - 48 := xRH (by omega) (by omega)
 rw [yDF,a78,xAj]
 simp (disch := omega) only [WB,Nat.reduceSub,h,k,↓reduceIte,hw]
theorem xV5 {n : Nat} (h : L.icall (.func 77 []) [.ptr rb 0,.int .u8 48,.int .u8 55,.int .u8 120,.int .u8 122] G = some (.int .i64 (n : Nat),G1)) (hn : 120 ≤ n) (hn2 : n ≤ 255) : L.icall (.func 78 []) [.ptr rb 0] G = some (.int .i64 ((n : Nat) - 112),G1) := by
 have k : (((120 : Int)) ≤ (n : Nat)) = True := by simp; omega
 have hw : IntKind.i64.wrap (((n : Nat) : Int) - 120) = (n : Nat) - 120 := xRH (by omega) (by omega)
 have hw2 : IntKind.i64.wrap (((n : Nat) : Int) - 120 + 8) = (n : Nat) - 112 := by rw [xRH (by omega) (by omega)]; omega
 rw [yDF,a78,xAj]
 simp (disch := omega) only [WB,Nat.reduceSub,h,k,↓reduceIte,hw,hw2]
theorem xZc (c : UInt8) : smB c = (decide ((97 : Int) ≤ (c.toNat : Nat)) && decide (((c.toNat : Nat) : Int) ≤ 122)) := by
 unfold smB
 congr 1 <;> (rw [decide_eq_decide]; omega)
theorem xC8 (h : RS G rb S at_ lv many e) (hc : S[at_]? = some c) : L.icall (.func 75 []) [.ptr rb 0] G = some (.bool (smB c),G) := by
 have hlt : at_ < S.length := (List.getElem?_eq_some_iff.1 hc).1
 have hsz : (⟨S.toArray⟩ : ByteArray).size = S.length := by simp [ByteArray.size]
 have k : (((at_ : Nat) : Int) < (S.length : Nat)) = True := by simp; omega
 have hs := fun H => xBC H hc
 unfold RS at h
 rw [xZc]
 generalize ((c.toNat : Nat) : Int) = n at *
 by_cases c1 : (97 : Int) ≤ n
 ·by_cases c2 : n ≤ 122
  ·rw [decide_eq_true c1,decide_eq_true c2,yBv,a75,xAj]
   simp (maxSteps := 30000000) (disch := first|exact D5|fail) only [WB,Nat.reduceSub,h,WA,hsz,k,↓reduceIte,xFq,xAK,hs,c1,xAh,c2]
  ·rw [decide_eq_true c1,decide_eq_false c2,yBv,a75,xAj]
   simp (maxSteps := 30000000) (disch := first|exact D5|fail) only [WB,Nat.reduceSub,h,WA,hsz,k,↓reduceIte,xFq,xAK,hs,c1,xAh,c2]
 ·rw [decide_eq_false c1,Bool.false_and,yBv,a75,xAj]
  simp (maxSteps := 30000000) (disch := first|exact D5|fail) only [WB,Nat.reduceSub,h,WA,hsz,k,↓reduceIte,xFq,xAK,hs,c1,xAh]
theorem xOm (h : RS G rb S at_ lv many e) (hge : S.length ≤ at_) : L.icall (.func 75 []) [.ptr rb 0] G = some (.bool false,G) := by
 have hsz : (⟨S.toArray⟩ : ByteArray).size = S.length := by simp [ByteArray.size]
 have k : (((at_ : Nat) : Int) < (S.length : Nat)) = False := by simp; omega
 unfold RS at h
 rw [yBv,a75,xAj]
 simp (maxSteps := 30000000) (disch := first|exact D5|fail) only [WB,Nat.reduceSub,h,WA,hsz,k,↓reduceIte,xAh]
theorem xUk : L.pcall 100 [.int .u8 (1 : Nat)] = some (.str (fnm 1)) := by
 rw [xIl,xQR,xAe]
 simp (disch := omega) only [WB,Nat.reduceSub,AV.cells,↓reduceIte,Nat.reduceAdd,Nat.reduceLeDiff,AV.isCell]
 rfl
theorem xUl : L.pcall 100 [.int .u8 (2 : Nat)] = some (.str (fnm 2)) := by
 rw [xIl,xQR,xAe]
 simp (disch := omega) only [WB,Nat.reduceSub,AV.cells,↓reduceIte,Nat.reduceAdd,Nat.reduceLeDiff,AV.isCell,Int.reduceToNat]
 rfl
theorem xUm : L.pcall 100 [.int .u8 (3 : Nat)] = some (.str (fnm 3)) := by
 rw [xIl,xQR,xAe]
 simp (disch := omega) only [WB,Nat.reduceSub,AV.cells,↓reduceIte,Nat.reduceAdd,Nat.reduceLeDiff,AV.isCell,Int.reduceToNat]
 rfl
theorem xUn : L.pcall 100 [.int .u8 (4 : Nat)] = some (.str (fnm 4)) := by
 rw [xIl,xQR,xAe]
 simp (disch := omega) only [WB,Nat.reduceSub,AV.cells,↓reduceIte,Nat.reduceAdd,Nat.reduceLeDiff,AV.isCell,Int.reduceToNat]
 rfl
theorem xUo : L.pcall 100 [.int .u8 (5 : Nat)] = some (.str (fnm 5)) := by
 rw [xIl,xQR,xAe]
 simp (disch := omega) only [WB,Nat.reduceSub,AV.cells,↓reduceIte,Nat.reduceAdd,Nat.reduceLeDiff,AV.isCell,Int.reduceToNat]
 rfl
theorem xUp : L.pcall 100 [.int .u8 (6 : Nat)] = some (.str (fnm 6)) := by
 rw [xIl,xQR,xAe]
 simp (disch := omega) only [WB,Nat.reduceSub,AV.cells,↓reduceIte,Nat.reduceAdd,Nat.reduceLeDiff,AV.isCell,Int.reduceToNat]
 rfl
theorem xUq : L.pcall 100 [.int .u8 (7 : Nat)] = some (.str (fnm 7)) := by
 rw [xIl,xQR,xAe]
 simp (disch := omega) only [WB,Nat.reduceSub,AV.cells,↓reduceIte,Nat.reduceAdd,Nat.reduceLeDiff,AV.isCell,Int.reduceToNat]
 rfl
theorem xUr : L.pcall 100 [.int .u8 (8 : Nat)] = some (.str (fnm 8)) := by
 rw [xIl,xQR,xAe]
 simp (disch := omega) only [WB,Nat.reduceSub,AV.cells,↓reduceIte,Nat.reduceAdd,Nat.reduceLeDiff,AV.isCell,Int.reduceToNat]
 rfl
theorem xUs : L.pcall 100 [.int .u8 (9 : Nat)] = some (.str (fnm 9)) := by
 rw [xIl,xQR,xAe]
 simp (disch := omega) only [WB,Nat.reduceSub,AV.cells,↓reduceIte,Nat.reduceAdd,Nat.reduceLeDiff,AV.isCell,Int.reduceToNat]
 rfl
theorem xQL : L.pcall 100 [.int .u8 (10 : Nat)] = some (.str (fnm 10)) := by
 rw [xIl,xQR,xAe]
 simp (disch := omega) only [WB,Nat.reduceSub,AV.cells,↓reduceIte,Nat.reduceAdd,Nat.reduceLeDiff,AV.isCell,Int.reduceToNat]
 rfl
theorem xZd {op : Nat} (h1 : 1 ≤ op) (h2 : op ≤ 10) : L.pcall 100 [.int .u8 (op : Nat)] = some (.str (fnm op)) := by
 have : op = 1 ∨ op = 2 ∨ op = 3 ∨ op = 4 ∨ op = 5 ∨ op = 6 ∨ op = 7 ∨ op = 8 ∨ op = 9 ∨ op = 10 := by omega
 rcases this with rfl | rfl | rfl | rfl | rfl | rfl | rfl | rfl | rfl | rfl
 ·exact xUk
 ·exact xUl
 ·exact xUm
 ·exact xUn
 ·exact xUo
 ·exact xUp
 ·exact xUq
 ·exact xUr
 ·exact xUs
 ·exact xQL
end
theorem yBa (l : List UInt8) : (⟨l.toArray⟩ : ByteArray).toList = l := by rw [Lib.toList_data]
theorem yC7 {op : Nat} : (fnm op) = (⟨(opB op).toArray⟩ : ByteArray) := by
 unfold fnm opB
 repeat' split
 all_goals rfl
theorem yC8 (op : Nat) (w : List UInt8) : xTF false (.str (fnm op)) (zS w) = some (.bool (opB op == w)) := by
 rw [xAC,yC7,yBa,yBa]
theorem yC9 (S : List UInt8) (a b : Nat) : (⟨S.toArray⟩ : ByteArray).extract a b = ⟨((S.drop a).take (b - a)).toArray⟩ := by
 have : ((⟨S.toArray⟩ : ByteArray).extract a b).data = ((S.drop a).take (b - a)).toArray := by
  rw [ByteArray.data_extract]; simp [List.extract_eq_take_drop]
 exact congrArg ByteArray.mk this
theorem yDa {S : List UInt8} {a b : Nat} (H : Heap) (h : a ≤ b) (h2 : b ≤ S.length) : xX0 H (zS S) (some (.int .i64 (a : Nat))) (some (.int .i64 (b : Nat))) = some (zS ((S.drop a).take (b - a)),H) := by
 have hn : xA7 (.int .i64 (a : Nat)) = some a := by simp [xA7]
 have hn2 : xA7 (.int .i64 (b : Nat)) = some b := by simp [xA7]
 have hs : (⟨S.toArray⟩ : ByteArray).size = S.length := by simp [ByteArray.size]
 show (xBi (⟨S.toArray⟩ : ByteArray).size (some (.int .i64 (a : Nat))) (some (.int .i64 (b : Nat))) none).map _ = _
 unfold xBi
 simp only [hn,hn2,hs]
 rw [if_pos ⟨h,h2⟩]
 show some (AV.str ((⟨S.toArray⟩ : ByteArray).extract a b),H) = _
 rw [yC9]
theorem xCt {S r : List UInt8} {a : Nat} {c : UInt8} (h : S.drop a = c :: r) : S[a]? = some c ∧ S.drop (a + 1) = r ∧ a + 1 ≤ S.length := by
 have h1 := congrArg List.head? h
 rw [List.head?_drop] at h1
 refine ⟨h1,?_,(List.getElem?_eq_some_iff.1 h1).1⟩
 rw [← List.drop_drop,h]; rfl
theorem xF7 {R : Rec} {F : List AV} {H : Heap} (x : Arg) (lo hi : Option Arg) : xA9 R F H (.sslice x lo hi) = xKz H (xAb R F H (.sslice x lo hi)) := xEo _ rfl
theorem xK8 {R : Rec} {F : List AV} {H : Heap} (n : Bool) (x y : Arg) : xA9 R F H (.sbeq n x y) = xKz H (xAb R F H (.sbeq n x y)) := xEo _ rfl
def xV6 (w : List UInt8) (ins : Bool) (j k : Nat) : Option Nat := (List.range' j k).find? fun op => opB op == w && (decide (op ≠ 1) == ins)
section
variable {G : Heap} {rb at_ first many : Nat} {S : List UInt8} {lv : AV} {c : UInt8} {ins : Bool}
theorem xZe (hS : S.length ≤ 4096) (hf : S[first]? = some c) (h61 : c ≠ 61) : ∀ (r : List UInt8) (at_ : Nat) (G : Heap),S.drop at_ = r → first < at_ → at_ ≤ S.length → RS G rb S at_ lv many 0 →
  L.loop xEC xKF ⟨xDB (.ptr rb 0) (.bool ins) (.int .i64 (first : Nat)),G⟩ = some (.exit 0,⟨xDB (.ptr rb 0) (.bool ins) (.int .i64 (first : Nat)),G.set rb (rsB S (at_ + (r.takeWhile smB).length) lv many 0)⟩) := by
 have hs := fun H => xBC H hf
 have hne : (((c.toNat : Nat) : Int) = 61) = False := by
  simp only [eq_iff_iff,iff_false]
  intro e
  apply h61
  have : c.toNat = 61 := by omega
  exact UInt8.toNat_inj.1 this
 intro r
 induction r with
 | nil =>
  intro at_ G hr hlt hle h
  have hat : at_ = S.length := by
   have := congrArg List.length hr
   rw [List.length_drop,List.length_nil] at this; omega
  have hl := xOm h (by omega)
  have hq : (((at_ : Nat) : Int) = (first : Nat)) = False := by simp; omega
  have hset : G.set rb (rsB S (at_ + (List.takeWhile smB []).length) lv many 0) = G := by
   obtain ⟨hk,hx⟩ := List.getElem?_eq_some_iff.1 (show G[rb]? = some _ from h)
   show G.set rb (rsB S (at_ + 0) lv many 0) = G
   rw [Nat.add_zero,← hx,List.set_getElem_self]
  rw [hset]
  unfold RS at h
  rw [xMQ]
  simp (maxSteps := 30000000) (disch := first|exact D5|fail) only [xHT,WB,h,hq,↓reduceIte,xAK,hs,hne,hl,xFm]
 | cons d r ih =>
  intro at_ G hr hlt hle h
  obtain ⟨a1,a2,a3⟩ := xCt hr
  have hl := xC8 h a1
  have hq : (((at_ : Nat) : Int) = (first : Nat)) = False := by simp; omega
  have lo := xAp (show G[rb]? = some _ from h)
  rw [List.takeWhile_cons]
  cases hb : smB d with
  | true =>
   rw [hb] at hl
   rw [if_pos rfl]
   have h1 : RS (G.set rb (rsB S (at_ + 1) lv many 0)) rb S (at_ + 1) lv many 0 := by unfold RS; rw [List.getElem?_set_self lo]
   have := ih (at_ + 1) (G.set rb (rsB S (at_ + 1) lv many 0)) a2 (by omega) a3 h1
   rw [List.set_set] at this
   have h' : G[rb]? = some (.cells false false [zS S,.int .i64 (at_ : Nat),lv,.int .i64 (many : Nat),.int .i64 0]) := h
   have this' : L.loop xEC xKF ⟨xDB (.ptr rb 0) (.bool ins) (.int .i64 (first : Nat)),G.set rb (.cells false false [zS S,.int .i64 ((at_ + 1 : Nat) : Int),lv,.int .i64 (many : Nat),.int .i64 0])⟩ = _ := this
   rw [show (d :: List.takeWhile smB r).length = 1 + (List.takeWhile smB r).length by simp; omega,← Nat.add_assoc]
   rw [xMQ]
   simp (maxSteps := 30000000) (disch := first|exact D5|fail) only [xHT,WB,h',hq,↓reduceIte,xAK,hs,hne,hl,AV.cells,Nat.reduceAdd,xFm,this']
  | false =>
   rw [hb] at hl
   rw [if_neg (by simp)]
   have hset : G.set rb (rsB S (at_ + ([] : List UInt8).length) lv many 0) = G := by
    obtain ⟨hk,hx⟩ := List.getElem?_eq_some_iff.1 (show G[rb]? = some _ from h)
    show G.set rb (rsB S (at_ + 0) lv many 0) = G
    rw [Nat.add_zero,← hx,List.set_getElem_self]
   rw [hset]
   unfold RS at h
   rw [xMQ]
   simp (maxSteps := 30000000) (disch := first|exact D5|fail) only [xHT,WB,h,hq,↓reduceIte,xAK,hs,hne,hl,xFm]
theorem xZf {w : List UInt8} {s4 : AV} (h : RS G rb S at_ lv many 0) (hS : S.length ≤ 4096) (hfa : first ≤ at_) (hal : at_ ≤ S.length) (hw : (S.drop first).take (at_ - first) = w) : ∀ k j,j + k = 11 → 1 ≤ j →
  L.loop xHU xQA ⟨xED (.ptr rb 0) (.bool ins) s4 (.int .i64 (first : Nat)) (.int .u8 (j : Nat)),G⟩ = some (match xV6 w ins j k with
   | some op => (.ret,⟨xED (.ptr rb 0) (.bool ins) (.int .u8 (op : Nat)) (.int .i64 (first : Nat)) (.int .u8 (op : Nat)),G⟩)
   | none => (.exit 2,⟨xED (.ptr rb 0) (.bool ins) s4 (.int .i64 (first : Nat)) (.int .u8 11),G⟩)) := by
 have hsl := fun H => yDa (S := S) H hfa hal
 rw [hw] at hsl
 unfold RS at h
 intro k
 induction k with
 | zero =>
  intro j hj h1
  obtain rfl : j = 11 := by omega
  show _ = some (AExit.exit 2,_)
  rw [xPF]
  simp (maxSteps := 30000000) (disch := first|exact D5|fail) only [xJV,WB,Int.reduceLE,↓reduceIte,xGu]
 | succ k ih =>
  intro j hj h1
  have hle : ((j : Nat) : Int) ≤ 10 := by omega
  have hq := xZd h1 (by omega)
  have hsb := yC8 j w
  have hj1 : decide (((j : Nat) : Int) = 1) = decide (j = 1) := by rw [decide_eq_decide]; omega
  unfold xV6
  rw [List.range'_succ,List.find?_cons]
  cases hb : (opB j == w) with
  | false =>
   rw [Bool.false_and]
   have := ih (j + 1) (by omega) (by omega)
   unfold xV6 at this
   rw [hb] at hsb
   generalize hX : (List.range' (j + 1) k).find? (fun op => opB op == w && (decide (op ≠ 1) == ins)) = X at *
   rw [xPF]
   simp (maxSteps := 30000000) (disch := first|exact D5|fail) only [xJV,WB,hle,↓reduceIte,hq,xAN,xAt,h,xF7,xBS,hsl,xK8,xAF,hsb,xAh,xGu,this]
  | true =>
   rw [Bool.true_and]
   rw [hb] at hsb
   cases hi : (decide (j ≠ 1) == ins) with
   | false =>
    have := ih (j + 1) (by omega) (by omega)
    unfold xV6 at this
    generalize hX : (List.range' (j + 1) k).find? (fun op => opB op == w && (decide (op ≠ 1) == ins)) = X at *
    have hcond : ((!decide (((j : Nat) : Int) = 1)) = ins) = False := by
     rw [hj1]
     by_cases c : j = 1 <;> cases ins <;> simp [c] at hi ⊢
    rw [xPF]
    simp (maxSteps := 30000000) (disch := first|exact D5|fail) only [xJV,WB,hle,↓reduceIte,hq,xAN,xAt,h,xF7,xBS,hsl,xK8,xAF,hsb,xAh,hcond,xGu,this]
   | true =>
    have hcond : ((!decide (((j : Nat) : Int) = 1)) = ins) = True := by
     rw [hj1]
     by_cases c : j = 1 <;> cases ins <;> simp [c] at hi ⊢
    show _ = some (AExit.ret,_)
    rw [xPF]
    simp (maxSteps := 30000000) (disch := first|exact D5|fail) only [xJV,WB,hle,↓reduceIte,hq,xAN,xAt,h,xF7,xBS,hsl,xK8,xAF,hsb,xAh,hcond,xGu]
end
theorem xUt (r : List UInt8) : (xA0 r).length ≤ r.length ∧ r.take (xA0 r).length = xA0 r := by
 unfold xA0
 split
 ·rename_i h
  cases r with
  | nil => cases h
  | cons c q => cases h; exact ⟨by simp,rfl⟩
 ·have h := List.takeWhile_append_dropWhile (p := smB) (l := r)
  have h2 := congrArg List.length h
  rw [List.length_append] at h2
  refine ⟨by omega,?_⟩
  conv => lhs; rw [← h]
  rw [List.take_left' (by rw [h])]
section
variable {G : Heap} {rb at_ many e : Nat} {S r : List UInt8} {lv : AV} {c : UInt8} {ins : Bool}
theorem xQM (h : RS G rb S at_ lv many 0) (hge : S.length ≤ at_) : L.icall (.func 76 []) [.ptr rb 0,.bool ins] G = some (.int .u8 0,G.set rb (rsB S at_ lv many 3)) := by
 have hn := xD8 h hge
 rw [xZl,a76,xAj]
 simp (disch := omega) only [WB,Nat.reduceAdd,Nat.reduceSub,hn,↓reduceIte]
theorem xOn (h : RS G rb S at_ lv many 0) (hS : S.length ≤ 4096) (hc : S[at_]? = some c) (h61 : c ≠ 61) (hsm : smB c = false) : L.icall (.func 76 []) [.ptr rb 0,.bool ins] G = some (.int .u8 0,G.set rb (rsB S at_ lv many 2)) := by
 have hlt : at_ < S.length := (List.getElem?_eq_some_iff.1 hc).1
 have hn := xB5 h hlt
 have hl := xC8 h hc
 rw [hsm] at hl
 have hs := fun H => xBC H hc
 have hne : (((c.toNat : Nat) : Int) = 61) = False := by
  simp only [eq_iff_iff,iff_false]
  intro e
  apply h61
  have : c.toNat = 61 := by omega
  exact UInt8.toNat_inj.1 this
 have h' : G[rb]? = some (.cells false false [zS S,.int .i64 (at_ : Nat),lv,.int .i64 (many : Nat),.int .i64 0]) := h
 have lo := xAp h'
 rw [xZl,a76,xAj]
 simp (maxSteps := 30000000) (disch := first|exact D5|fail) only [WB,Nat.reduceAdd,Nat.reduceSub,hn,↓reduceIte,h',xAh,xAK,hs,hne,hl,AV.cells]
 rfl
theorem xOo (h : RS G rb S at_ lv many 0) (hS : S.length ≤ 4096) (hr : S.drop at_ = c :: r) (hc : (c == 61 || smB c) = true) :
  L.icall (.func 76 []) [.ptr rb 0,.bool ins] G = some (match pop (xA0 (c :: r)) ins with
   | some op => (.int .u8 (op : Nat),G.set rb (rsB S (at_ + (xA0 (c :: r)).length) lv many 0))
   | none => (.int .u8 0,G.set rb (rsB S at_ lv many 6))) := by
 obtain ⟨a1,a2,a3⟩ := xCt hr
 have hn := xB5 h (by omega)
 have hs := fun H => xBC H a1
 have lo := xAp (show G[rb]? = some _ from h)
 obtain ⟨w1,w2⟩ := xUt (c :: r)
 have hlen := congrArg List.length hr
 rw [List.length_drop] at hlen
 have hwl : 1 ≤ (xA0 (c :: r)).length := by
  unfold xA0
  split
  ·exact Nat.le_refl _
  ·rename_i h61
   have : smB c = true := by
    rcases Bool.or_eq_true _ _ ▸ hc with q | q
    ·exfalso; apply h61; simp at q; rw [q]; rfl
    ·exact q
   rw [List.takeWhile_cons,this]; simp
 have h2 : RS (G.set rb (rsB S (at_ + (xA0 (c :: r)).length) lv many 0)) rb S (at_ + (xA0 (c :: r)).length) lv many 0 := by unfold RS; rw [List.getElem?_set_self lo]
 have hb := xZf (ins := ins) (s4 := .any) (first := at_) (w := xA0 (c :: r)) h2 hS (by omega) (by omega) (by rw [hr,Nat.add_sub_cancel_left]; exact w2) 10 1 rfl (Nat.le_refl _)
 have hb' : L.loop xHU xQA ⟨xED (.ptr rb 0) (.bool ins) .any (.int .i64 (at_ : Nat)) (.int .u8 1),G.set rb (rsB S (at_ + (xA0 (c :: r)).length) lv many 0)⟩ = some (match pop (xA0 (c :: r)) ins with
   | some op => (.ret,⟨xED (.ptr rb 0) (.bool ins) (.int .u8 (op : Nat)) (.int .i64 (at_ : Nat)) (.int .u8 (op : Nat)),G.set rb (rsB S (at_ + (xA0 (c :: r)).length) lv many 0)⟩)
   | none => (.exit 2,⟨xED (.ptr rb 0) (.bool ins) .any (.int .i64 (at_ : Nat)) (.int .u8 11),G.set rb (rsB S (at_ + (xA0 (c :: r)).length) lv many 0)⟩)) := hb
 have h' : G[rb]? = some (.cells false false [zS S,.int .i64 (at_ : Nat),lv,.int .i64 (many : Nat),.int .i64 0]) := h
 by_cases h61 : c = 61
 ·subst h61
  have hw : xA0 (61 :: r) = [61] := rfl
  rw [hw] at hb' ⊢
  have ha : ∀ G1,RS G1 rb S (at_ + 1) lv many 0 → L.loop xEC xKF ⟨xDB (.ptr rb 0) (.bool ins) (.int .i64 (at_ : Nat)),G1⟩ = some (.exit 0,⟨xDB (.ptr rb 0) (.bool ins) (.int .i64 (at_ : Nat)),G1⟩) := by
   intro G1 h1
   have hq : (((at_ + 1 : Nat) : Int) = (at_ : Nat)) = False := by simp; omega
   have hs' : ∀ H,xQQ H (zS S) (.int .i64 (at_ : Nat)) = some (.int .u8 61,H) := hs
   unfold RS at h1
   rw [xMQ]
   simp (maxSteps := 30000000) (disch := first|exact D5|fail) only [xHT,WB,h1,hq,↓reduceIte,xAK,hs',xFm]
  have h1 : RS (G.set rb (rsB S (at_ + 1) lv many 0)) rb S (at_ + 1) lv many 0 := by unfold RS; rw [List.getElem?_set_self lo]
  have ha1 := ha _ h1
  have ha1' : L.loop xEC xKF ⟨xDB (.ptr rb 0) (.bool ins) (.int .i64 (at_ : Nat)),G.set rb (.cells false false [zS S,.int .i64 ((at_ + 1 : Nat) : Int),lv,.int .i64 (many : Nat),.int .i64 0])⟩ = _ := ha1
  have hs' : ∀ H,xQQ H (zS S) (.int .i64 (at_ : Nat)) = some (.int .u8 61,H) := hs
  have hb2 : L.loop xHU xQA ⟨xED (.ptr rb 0) (.bool ins) .any (.int .i64 (at_ : Nat)) (.int .u8 1),G.set rb (rsB S (at_ + 1) lv many 0)⟩ = _ := hb'
  cases hp : pop [61] ins with
  | some op =>
   rw [hp] at hb2
   rw [xZl,a76,xAj]
   simp (maxSteps := 30000000) (disch := first|exact D5|fail) only [WB,Nat.reduceAdd,Nat.reduceSub,hn,↓reduceIte,h',xAh,xAK,hs',AV.cells,xFm,ha1',xGu,hb2]
  | none =>
   rw [hp] at hb2
   rw [xZl,a76,xAj]
   simp (maxSteps := 30000000) (disch := first|exact D5|fail) only [WB,Nat.reduceAdd,Nat.reduceSub,hn,↓reduceIte,h',xAh,xAK,hs',AV.cells,xFm,ha1',xGu,hb2,xDD]
   rw [List.set_set,List.set_set]; rfl
 ·have hsm : smB c = true := by
   rcases Bool.or_eq_true _ _ ▸ hc with q | q
   ·exfalso; apply h61; simpa using q
   ·exact q
  have hne : (((c.toNat : Nat) : Int) = 61) = False := by
   simp only [eq_iff_iff,iff_false]
   intro e
   apply h61
   have : c.toNat = 61 := by omega
   exact UInt8.toNat_inj.1 this
  have hl := xC8 h a1
  rw [hsm] at hl
  have hw : xA0 (c :: r) = c :: r.takeWhile smB := by
   unfold xA0
   rw [if_neg (by intro e; cases e; exact h61 rfl),List.takeWhile_cons,hsm]; rfl
  have h1 : RS (G.set rb (rsB S (at_ + 1) lv many 0)) rb S (at_ + 1) lv many 0 := by unfold RS; rw [List.getElem?_set_self lo]
  have ha := xZe (ins := ins) hS a1 h61 r (at_ + 1) _ a2 (by omega) a3 h1
  rw [List.set_set,show at_ + 1 + (r.takeWhile smB).length = at_ + (xA0 (c :: r)).length by rw [hw]; simp; omega] at ha
  have ha0 : L.loop xEC xKF ⟨xDB (.ptr rb 0) (.bool ins) (.int .i64 (at_ : Nat)),G⟩ = some (.exit 0,⟨xDB (.ptr rb 0) (.bool ins) (.int .i64 (at_ : Nat)),G.set rb (rsB S (at_ + (xA0 (c :: r)).length) lv many 0)⟩) := by
   have ha' : L.loop xEC xKF ⟨xDB (.ptr rb 0) (.bool ins) (.int .i64 (at_ : Nat)),G.set rb (.cells false false [zS S,.int .i64 ((at_ + 1 : Nat) : Int),lv,.int .i64 (many : Nat),.int .i64 0])⟩ = _ := ha
   generalize G.set rb (rsB S (at_ + (xA0 (c :: r)).length) lv many 0) = G2 at *
   rw [xMQ]
   simp (maxSteps := 30000000) (disch := first|exact D5|fail) only [xHT,WB,h',↓reduceIte,AV.cells,Nat.reduceAdd,xFm,ha']
  generalize hG2 : G.set rb (rsB S (at_ + (xA0 (c :: r)).length) lv many 0) = G2 at *
  have h2' : G2[rb]? = some (.cells false false [zS S,.int .i64 ((at_ + (xA0 (c :: r)).length : Nat) : Int),lv,.int .i64 (many : Nat),.int .i64 0]) := h2
  have lo2 := xAp h2'
  cases hp : pop (xA0 (c :: r)) ins with
  | some op =>
   rw [hp] at hb'
   rw [xZl,a76,xAj]
   simp (maxSteps := 30000000) (disch := first|exact D5|fail) only [WB,Nat.reduceAdd,Nat.reduceSub,hn,↓reduceIte,h',xAh,xAK,hs,hne,hl,xFm,ha0,xGu,hb']
  | none =>
   rw [hp] at hb'
   have e6 : List.set G rb (rsB S at_ lv many 6) = List.set G2 rb (rsB S at_ lv many 6) := by rw [← hG2,List.set_set]
   rw [xZl,a76,xAj]
   simp (maxSteps := 30000000) (disch := first|exact D5|fail) only [WB,Nat.reduceAdd,Nat.reduceSub,hn,↓reduceIte,h',xAh,xAK,hs,hne,hl,xFm,ha0,xGu,hb',AV.cells,h2',xDD]
   rw [e6,List.set_set]; rfl
end
theorem xUu (op : Nat) : L.pcall 79 [.int .u8 (op : Nat)] = some (.int .i64 (chn op : Nat)) := by
 by_cases h : op = 0 ∨ 10 < op
 ·have hc : chn op = 0 := by
   unfold chn
   rw [if_neg (by omega),if_neg (by omega)]
  have n4 : ¬ (((op : Nat) : Int) = 4) := by omega
  have n5 : ¬ (((op : Nat) : Int) = 5) := by omega
  have n6 : ¬ (((op : Nat) : Int) = 6) := by omega
  have n7 : ¬ (((op : Nat) : Int) = 7) := by omega
  have n8 : ¬ (((op : Nat) : Int) = 8) := by omega
  have n9 : ¬ (((op : Nat) : Int) = 9) := by omega
  have n10 : ¬ (((op : Nat) : Int) = 10) := by omega
  rw [hc,yDr,a79,xAe]
  simp (disch := omega) only [WB,Nat.reduceSub,n4,↓reduceIte,n7,n8,n10,n5,n6,n9]
  try rfl
 have : op = 1 ∨ op = 2 ∨ op = 3 ∨ op = 4 ∨ op = 5 ∨ op = 6 ∨ op = 7 ∨ op = 8 ∨ op = 9 ∨ op = 10 := by omega
 rcases this with rfl | rfl | rfl | rfl | rfl | rfl | rfl | rfl | rfl | rfl <;> (rw [yDr,a79,xAe]; simp (disch := omega) only [WB,Nat.reduceSub,Int.reduceEq,↓reduceIte]; try rfl)
section
variable {fs : List Nd} {z : Bool}
def bdA (bd : Nat) : List AV := [.bool (bd.testBit 0),.bool (bd.testBit 1),.bool (bd.testBit 2)]
theorem yBb (bd : Nat) {k : Nat} (h : k < 3) : List.take 1 (List.drop k (bdA bd)) = [.bool (bd.testBit k)] := by
 have : k = 0 ∨ k = 1 ∨ k = 2 := by omega
 rcases this with rfl | rfl | rfl <;> rfl
theorem xZg {bd : Nat} (hb : bd < 8) {k : Nat} (h : k < 3) : List.take k (bdA bd) ++ (.bool true :: List.drop (k + 1) (bdA bd)) = bdA (bd ||| 2 ^ k) := by
 have hk : k = 0 ∨ k = 1 ∨ k = 2 := by omega
 have hb' : bd = 0 ∨ bd = 1 ∨ bd = 2 ∨ bd = 3 ∨ bd = 4 ∨ bd = 5 ∨ bd = 6 ∨ bd = 7 := by omega
 rcases hk with rfl | rfl | rfl <;> rcases hb' with rfl | rfl | rfl | rfl | rfl | rfl | rfl | rfl <;> rfl
variable {bd p b : Nat} {G : Heap} {s0 : AV} {n : Nd}
theorem yBc (hl : n.args.length ≤ 100) (har : ∀ t ∈ n.args,0 ≤ t ∧ t ≤ 10) (gb : G[b]? = some (.cells false false (bdA bd))) (gp : G[p]? = some (.cells false false n.c)) : ∀ k i,i + k = n.args.length → ∃ i' : Nat,
  L.loop xJK xTa ⟨xHR s0 (.ptr b 0) (.bool false) (.ptr p 0) (.int .i64 (i : Nat)),G⟩ =
   some (if xKt bd (n.args.drop i) = true then (.ret,⟨xHR s0 (.ptr b 0) (.bool true) (.ptr p 0) (.int .i64 (i' : Nat)),G⟩)
    else (.exit 0,⟨xHR s0 (.ptr b 0) (.bool false) (.ptr p 0) (.int .i64 (i' : Nat)),G⟩)) := by
 have hnv : xBW n.z n.args = .sl n.z n.args.length (xAG n.args) := rfl
 unfold Nd.c at gp
 rw [hnv] at gp
 intro k
 induction k with
 | zero =>
  intro i hi
  obtain rfl : i = n.args.length := by omega
  refine ⟨n.args.length,?_⟩
  rw [if_neg (by rw [List.drop_length]; simp [xKt]),xPy]
  simp (maxSteps := 30000000) (disch := first|exact D5|fail) only [xJJ,WB,gp,↓reduceIte,xDA]
 | succ k ih =>
  intro i hi'
  have hlt : (i : Int) < (n.args.length : Nat) := by omega
  have hl1 : i < n.args.length := by omega
  obtain ⟨i',ih'⟩ := ih (i + 1) (by omega)
  have em : xKt bd (n.args.drop i) = ((decide (8 ≤ n.args.getD i 0) && !(bd.testBit ((n.args.getD i 0).toNat - 8))) || xKt bd (n.args.drop (i + 1))) := by
   rw [List.drop_eq_getElem_cons hl1,List.getD_eq_getElem?_getD,List.getElem?_eq_getElem hl1]
   rfl
  have hm : n.args.getD i 0 ∈ n.args := by rw [List.getD_eq_getElem?_getD,List.getElem?_eq_getElem hl1]; exact List.getElem_mem hl1
  have hr := har _ hm
  rw [em]
  generalize hN : n.args.getD i 0 = t at *
  by_cases c1 : 8 ≤ t
  ·obtain ⟨k8,hk8⟩ : ∃ k8 : Nat,t = ((k8 + 8 : Nat) : Int) := ⟨(t - 8).toNat,by omega⟩
   subst hk8
   have hs : (((k8 + 8 : Nat) : Int) - 8) = ((k8 : Nat) : Int) := by omega
   have hk3 : k8 < 3 := by omega
   have hat := yBb bd hk3
   have hto : ((((k8 + 8 : Nat) : Int)).toNat - 8) = k8 := by omega
   have hbl : (bdA bd).length = 3 := rfl
   have hk3i : ((k8 : Nat) : Int) < 3 := by omega
   rw [hto]
   cases hbit : bd.testBit k8 with
   | true =>
    rw [hbit] at hat
    simp only [c1,decide_true,Bool.true_and,Bool.not_true,Bool.false_or]
    refine ⟨i',?_⟩
    generalize bdA bd = BD at *
    rw [xPy]
    simp (maxSteps := 30000000) (disch := first|exact D5|fail) only [xJJ,WB,gp,hlt,↓reduceIte,W2,hN,c1,hs,WA,gb,hat,xDA,ih']
   | false =>
    rw [hbit] at hat
    simp only [c1,decide_true,Bool.true_and,Bool.not_false,Bool.true_or,if_true]
    refine ⟨i,?_⟩
    generalize bdA bd = BD at *
    rw [xPy]
    simp (maxSteps := 30000000) (disch := first|exact D5|fail) only [xJJ,WB,gp,hlt,↓reduceIte,W2,hN,c1,hs,WA,gb,hat,xDA]
  ·simp only [c1,decide_false,Bool.false_and,Bool.false_or]
   refine ⟨i',?_⟩
   rw [xPy]
   simp (maxSteps := 30000000) (disch := first|exact D5|fail) only [xJJ,WB,gp,hlt,↓reduceIte,W2,hN,c1,xDA,ih']
end
theorem xUv (d : Nat) (H : Heap) (bd : Nat) : (bdA bd).mapM (frz d H) = some (bdA bd) := by simp [bdA,List.mapM_cons,xFh]
theorem xUw (d : Nat) (H : Heap) (bd : Nat) : (bdA bd).flatMap (bor d H) = [] := by simp [bdA,xKy]
section
variable {fz : Bool} {fs : List Nd}
theorem yBd (hlen : fs.length ≤ 64) (hV : ∀ j,j < fs.length → Vn j (fs.getD j nd0)) : ∀ (k i bd : Nat),i < k → i < fs.length → bd < 8 →
  L.pcall 44 [.sl fz fs.length (nds fs),.int .i64 (i : Nat),.agg (bdA bd)] = some (.bool (opn fs k i bd)) := by
 intro k
 induction k with
 | zero => intro i bd h; omega
 | succ k ih =>
  intro i bd hik hi hbd
  have hv := hV i hi
  rw [opn]
  generalize hn : fs.getD i nd0 = n at *
  obtain ⟨i',e1⟩ := yBc (s0 := .sl fz fs.length (nds fs)) (b := 0) (p := 1) (n := n) (bd := bd) (G := [.cells false false (bdA bd),.cells false false n.c]) hv.al hv.ar rfl rfl n.args.length 0 (by omega)
  rw [List.drop_zero] at e1
  have h79 := xUu n.op
  have hnv : xBW n.z n.args = .sl n.z n.args.length (xAG n.args) := rfl
  unfold Nd.c at e1
  rw [hnv] at e1
  have e1' : L.loop xJK xTa ⟨xHR (.sl fz fs.length (nds fs)) (.ptr 0 0) (.bool false) (.ptr 1 0) (.int .i64 0),[.cells false false (bdA bd),.cells false false [.int .u8 (n.op : Nat),.int .i64 n.name,.sl n.z n.args.length (xAG n.args),.int .i64 n.x,.int .i64 n.a,.int .i64 n.b]]⟩ = _ := e1
  have hbl3 : (bdA bd).length = 3 := rfl
  have hbt3 : List.take 3 (bdA bd) = bdA bd := rfl
  have hcl : (bdA bd).all AV.isCell = true := rfl
  have hf3 := fun d H => xUv d H bd
  have hb3 := fun d H => xUw d H bd
  cases hA : xKt bd n.args with
  | true =>
   rw [hA] at e1'
   simp only [if_true,Bool.true_or] at e1' ⊢
   generalize bdA bd = BD at *
   rw [xWU,a44,xAe]
   simp (maxSteps := 30000000) (disch := first|exact D5|fail) only [WB,Nat.reduceAdd,Nat.reduceSub,AV.cells,hcl,↓reduceIte,xAP,Nd.c,hn,hnv,AV.isCell,xDA,e1']
  | false =>
   rw [hA] at e1'
   simp only [Bool.false_eq_true,if_false,Bool.false_or] at e1' ⊢
   have hbl := xW0 hv hbd
   have hrec : ∀ j : Nat,j < i → L.pcall 44 [.sl fz fs.length (nds fs),.int .i64 (j : Nat),.agg (bdA (bnd n bd))] = some (.bool (opn fs k j (bnd n bd))) := fun j hj => ih j _ (by omega) (by omega) hbl
   have hca := hv.ca
   have hcb := hv.cb
   have hc2 := xBF n.op
   by_cases c7 : n.op = 7
   ·have c7' : (((n.op : Nat) : Int) = 7) = True := eq_true (by omega)
    have hx := hv.ex c7
    have hc1 : chn n.op = 1 := by rw [c7]; rfl
    have ha := xAU (hca (by omega))
    have hra := hrec _ ha.2
    rw [← ha.1] at hra
    obtain ⟨k8,hk8,hk3⟩ : ∃ k8 : Nat,n.x - 8 = (k8 : Nat) ∧ k8 < 3 := ⟨(n.x - 8).toNat,by omega,by omega⟩
    have hbe : bnd n bd = bd ||| 2 ^ k8 := by
     unfold bnd
     rw [if_pos c7,show n.x.toNat - 8 = k8 by omega]
    have hset := xZg hbd hk3
    rw [← hbe] at hset
    have hk3i : ((k8 : Nat) : Int) < 3 := by omega
    have hbl4 : (bdA (bnd n bd)).length = 3 := rfl
    have hf4 := fun d H => xUv d H (bnd n bd)
    have hb4 := fun d H => xUw d H (bnd n bd)
    have hcl4 : (bdA (bnd n bd)).all AV.isCell = true := rfl
    have hbt4 : List.take 3 (bdA (bnd n bd)) = bdA (bnd n bd) := rfl
    rw [hc1] at h79 ⊢
    generalize opn fs k n.a.toNat (bnd n bd) = r at *
    generalize bdA (bnd n bd) = BD2 at *
    generalize bdA bd = BD at *
    cases r with
    | true =>
     rw [xWU,a44,xAe]
     simp (maxSteps := 30000000) (disch := first|exact D5|fail) only [WB,Nat.reduceAdd,Nat.reduceSub,AV.cells,hcl,↓reduceIte,xAP,Nd.c,hn,hnv,AV.isCell,xDA,e1',c7',hk8,WA,hset,h79,xAN,xAt,Int.reduceLT,hbt4,hf4,hra,Nat.reduceLT]
    | false =>
     rw [xWU,a44,xAe]
     simp (maxSteps := 30000000) (disch := first|exact D5|fail) only [WB,Nat.reduceAdd,Nat.reduceSub,AV.cells,hcl,↓reduceIte,xAP,Nd.c,hn,hnv,AV.isCell,xDA,e1',c7',hk8,WA,hset,h79,xAN,xAt,Int.reduceLT,hbt4,hf4,hra,Nat.reduceLT]
   ·have c7' : ¬ ((n.op : Nat) : Int) = 7 := by omega
    have hbe : bnd n bd = bd := by unfold bnd; rw [if_neg c7]
    rw [hbe] at hrec ⊢
    rcases hc2 with hc | hc | hc
    ·rw [hc] at h79 ⊢
     generalize bdA bd = BD at *
     rw [xWU,a44,xAe]
     simp (maxSteps := 30000000) (disch := first|exact D5|fail) only [WB,Nat.reduceAdd,Nat.reduceSub,AV.cells,hcl,↓reduceIte,xAP,Nd.c,hn,hnv,AV.isCell,xDA,e1',c7',h79,xAN,xAt,Int.reduceLT,Nat.reduceLT]
    ·have ha := xAU (hca (by omega))
     have hra := hrec _ ha.2
     rw [← ha.1] at hra
     rw [hc] at h79 ⊢
     generalize opn fs k n.a.toNat bd = r at *
     generalize bdA bd = BD at *
     cases r with
     | true =>
      rw [xWU,a44,xAe]
      simp (maxSteps := 30000000) (disch := first|exact D5|fail) only [WB,Nat.reduceAdd,Nat.reduceSub,AV.cells,hcl,↓reduceIte,xAP,Nd.c,hn,hnv,AV.isCell,xDA,e1',c7',h79,xAN,xAt,Int.reduceLT,hbt3,hf3,hra,Nat.reduceLT]
     | false =>
      rw [xWU,a44,xAe]
      simp (maxSteps := 30000000) (disch := first|exact D5|fail) only [WB,Nat.reduceAdd,Nat.reduceSub,AV.cells,hcl,↓reduceIte,xAP,Nd.c,hn,hnv,AV.isCell,xDA,e1',c7',h79,xAN,xAt,Int.reduceLT,hbt3,hf3,hra,Nat.reduceLT]
    ·have ha := xAU (hca (by omega))
     have hra := hrec _ ha.2
     rw [← ha.1] at hra
     have hb := xAU (hcb hc)
     have hrb := hrec _ hb.2
     rw [← hb.1] at hrb
     rw [hc] at h79 ⊢
     generalize opn fs k n.a.toNat bd = r at *
     generalize opn fs k n.b.toNat bd = r2 at *
     generalize bdA bd = BD at *
     cases r with
     | true =>
      rw [xWU,a44,xAe]
      simp (maxSteps := 30000000) (disch := first|exact D5|fail) only [WB,Nat.reduceAdd,Nat.reduceSub,AV.cells,hcl,↓reduceIte,xAP,Nd.c,hn,hnv,AV.isCell,xDA,e1',c7',h79,xAN,xAt,Int.reduceLT,hbt3,hf3,hra,Nat.reduceLT]
     | false =>
      rw [xWU,a44,xAe]
      simp (maxSteps := 30000000) (disch := first|exact D5|fail) only [WB,Nat.reduceAdd,Nat.reduceSub,AV.cells,hcl,↓reduceIte,xAP,Nd.c,hn,hnv,AV.isCell,xDA,e1',c7',h79,xAN,xAt,Int.reduceLT,hbt3,hf3,hra,hrb,Nat.reduceLT]
end
set_option maxRecDepth 100000
def sqX : ACode → ACode
 | .seq a _ => a
 | c => c
def sqY : ACode → ACode
 | .seq _ b => b
 | c => c
def qc0 : ACode := sqX (a43.code)
def qc1 : ACode := sqX (sqY (a43.code))
def qc2 : ACode := sqX (sqY (sqY (a43.code)))
def qc3 : ACode := sqX (sqY (sqY (sqY (a43.code))))
def qc4 : ACode := sqX (sqY (sqY (sqY (sqY (a43.code)))))
def qc5 : ACode := sqX (sqY (sqY (sqY (sqY (sqY (a43.code))))))
def qc6 : ACode := sqX (sqY (sqY (sqY (sqY (sqY (sqY (a43.code)))))))
def qc7 : ACode := sqX (sqY (sqY (sqY (sqY (sqY (sqY (sqY (a43.code))))))))
def qc8 : ACode := sqX (sqY (sqY (sqY (sqY (sqY (sqY (sqY (sqY (a43.code)))))))))
def qc9 : ACode := sqX (sqY (sqY (sqY (sqY (sqY (sqY (sqY (sqY (sqY (a43.code))))))))))
def xZn : ACode := sqX (sqY (sqY (sqY (sqY (sqY (sqY (sqY (sqY (sqY (sqY (a43.code)))))))))))
def xZo : ACode := sqX (sqY (sqY (sqY (sqY (sqY (sqY (sqY (sqY (sqY (sqY (sqY (a43.code))))))))))))
def xUB : ACode := sqY (sqY (sqY (sqY (sqY (sqY (sqY (sqY (sqY (sqY (sqY (sqY (a43.code))))))))))))
theorem xJ3 : a43.code = .seq qc0 (.seq qc1 (.seq qc2 (.seq qc3 (.seq qc4 (.seq qc5 (.seq qc6 (.seq qc7 (.seq qc8 (.seq qc9 (.seq xZn (.seq xZo (xUB)))))))))))) := rfl
theorem xBg {F : List AV} (h : F.length = 143) : F = F.getD 0 .any :: F.getD 1 .any :: F.getD 2 .any :: F.getD 3 .any :: F.getD 4 .any :: F.getD 5 .any :: F.getD 6 .any :: F.getD 7 .any :: F.getD 8 .any :: F.getD 9 .any :: F.getD 10 .any :: F.getD 11 .any :: F.getD 12 .any :: F.getD 13 .any :: F.getD 14 .any :: F.getD 15 .any :: F.getD 16 .any :: F.getD 17 .any :: F.getD 18 .any :: F.getD 19 .any :: F.getD 20 .any :: F.getD 21 .any :: F.getD 22 .any :: F.getD 23 .any :: F.getD 24 .any :: F.getD 25 .any :: F.getD 26 .any :: F.getD 27 .any :: F.getD 28 .any :: F.getD 29 .any :: F.getD 30 .any :: F.getD 31 .any :: F.getD 32 .any :: F.getD 33 .any :: F.getD 34 .any :: F.getD 35 .any :: F.getD 36 .any :: F.getD 37 .any :: F.getD 38 .any :: F.getD 39 .any :: F.getD 40 .any :: F.getD 41 .any :: F.getD 42 .any :: F.getD 43 .any :: F.getD 44 .any :: F.getD 45 .any :: F.getD 46 .any :: F.getD 47 .any :: F.getD 48 .any :: F.getD 49 .any :: F.getD 50 .any :: F.getD 51 .any :: F.getD 52 .any :: F.getD 53 .any :: F.getD 54 .any :: F.getD 55 .any :: F.getD 56 .any :: F.getD 57 .any :: F.getD 58 .any :: F.getD 59 .any :: F.getD 60 .any :: F.getD 61 .any :: F.getD 62 .any :: F.getD 63 .any :: F.getD 64 .any :: F.getD 65 .any :: F.getD 66 .any :: F.getD 67 .any :: F.getD 68 .any :: F.getD 69 .any :: F.getD 70 .any :: F.getD 71 .any :: F.getD 72 .any :: F.getD 73 .any :: F.getD 74 .any :: F.getD 75 .any :: F.getD 76 .any :: F.getD 77 .any :: F.getD 78 .any :: F.getD 79 .any :: F.getD 80 .any :: F.getD 81 .any :: F.getD 82 .any :: F.getD 83 .any :: F.getD 84 .any :: F.getD 85 .any :: F.getD 86 .any :: F.getD 87 .any :: F.getD 88 .any :: F.getD 89 .any :: F.getD 90 .any :: F.getD 91 .any :: F.getD 92 .any :: F.getD 93 .any :: F.getD 94 .any :: F.getD 95 .any :: F.getD 96 .any :: F.getD 97 .any :: F.getD 98 .any :: F.getD 99 .any :: F.getD 100 .any :: F.getD 101 .any :: F.getD 102 .any :: F.getD 103 .any :: F.getD 104 .any :: F.getD 105 .any :: F.getD 106 .any :: F.getD 107 .any :: F.getD 108 .any :: F.getD 109 .any :: F.getD 110 .any :: F.getD 111 .any :: F.getD 112 .any :: F.getD 113 .any :: F.getD 114 .any :: F.getD 115 .any :: F.getD 116 .any :: F.getD 117 .any :: F.getD 118 .any :: F.getD 119 .any :: F.getD 120 .any :: F.getD 121 .any :: F.getD 122 .any :: F.getD 123 .any :: F.getD 124 .any :: F.getD 125 .any :: F.getD 126 .any :: F.getD 127 .any :: F.getD 128 .any :: F.getD 129 .any :: F.getD 130 .any :: F.getD 131 .any :: F.getD 132 .any :: F.getD 133 .any :: F.getD 134 .any :: F.getD 135 .any :: F.getD 136 .any :: F.getD 137 .any :: F.getD 138 .any :: F.getD 139 .any :: F.getD 140 .any :: F.getD 141 .any :: F.getD 142 .any :: [] := by
 have e : ∀ {n : Nat} {F : List AV},F.length = n → F = (List.range n).map fun i => F.getD i .any := by
  intro n F hn
  apply List.ext_getElem?
  intro i
  rw [List.getElem?_map]
  by_cases c : i < n
  ·rw [List.getElem?_range c,List.getElem?_eq_getElem (by omega)]
   show _ = some (F.getD i .any)
   rw [List.getD_eq_getElem?_getD,List.getElem?_eq_getElem (by omega)]; rfl
  ·rw [List.getElem?_eq_none (by omega),List.getElem?_eq_none (by simp; omega)]; rfl
 exact (e h).trans rfl
theorem exu {r : Option (AExit × St)} {x : AExit} {F1 : List AV} {G1 : Heap} {P : List AV → Prop} (h : r = some (x,⟨F1,G1⟩)) (hp : P F1) : ∃ F',r = some (x,⟨F',G1⟩) ∧ P F' := ⟨F1,h,hp⟩
abbrev xU (op : Nat) (nm : Int) (av : AV) (x a b : Int) : Blk := .cells false false [.int .u8 (op : Nat),.int .i64 nm,av,.int .i64 x,.int .i64 a,.int .i64 b]
structure Fu (F : List AV) (rb : Nat) (ins : Bool) (ix : Nat) : Prop where
 len : F.length = 143
 s0 : F.getD 0 .any = .ptr rb 0
 s2 : F.getD 2 .any = .bool ins
 s3 : F.getD 3 .any = .ptr ix 0
structure FuA (F : List AV) (rb : Nat) : Prop where
 len : F.length = 143
 s0 : F.getD 0 .any = .ptr rb 0
structure FuB (F : List AV) (rb : Nat) (ins : Bool) : Prop where
 len : F.length = 143
 s0 : F.getD 0 .any = .ptr rb 0
 s2 : F.getD 2 .any = .bool ins
section
variable {F : List AV} {G G1 G2 : Heap} {rb ix at_ many e op : Nat} {S : List UInt8} {lv av : AV} {ins : Bool} {nm x a b : Int} {c : UInt8}
theorem yDb (hF : FuA F rb) (h : RS G rb S at_ lv many 0) (hlt : at_ < S.length) : ∃ F',run L qc0 ⟨F,G⟩ = some (.normal,⟨F',G⟩) ∧ FuA F' rb := by
 obtain ⟨hl,h0⟩ := hF
 have hn := xB5 h hlt
 rw [xBg hl,h0]
 apply exu
 ·simp (disch := omega) only [qc0,sqX,a43,WB,hn,↓reduceIte]
  rfl
 ·constructor <;> rfl
theorem yBe (hF : FuA F rb) (h : RS G rb S at_ lv many e) (he : e ≠ 0) : ∃ F',run L qc0 ⟨F,G⟩ = some (.ret,⟨F',G⟩) ∧ True := by
 obtain ⟨hl,h0⟩ := hF
 have hn := xD7 h he
 rw [xBg hl,h0]
 apply exu
 ·simp (disch := omega) only [qc0,sqX,a43,WB,hn,↓reduceIte]
  rfl
 ·trivial
theorem yBf (hF : FuA F rb) (h : RS G rb S at_ lv many 0) (hge : S.length ≤ at_) : ∃ F',run L qc0 ⟨F,G⟩ = some (.ret,⟨F',G.set rb (rsB S at_ lv many 3)⟩) ∧ True := by
 obtain ⟨hl,h0⟩ := hF
 have hn := xD8 h hge
 rw [xBg hl,h0]
 apply exu
 ·simp (disch := omega) only [qc0,sqX,a43,WB,hn,↓reduceIte]
  rfl
 ·trivial
theorem u1 (hF : FuA F rb) (h : RS G rb S at_ lv many 0) (hc : S[at_]? = some c) : ∃ F',run L qc1 ⟨F,G⟩ = some (.normal,⟨F',G⟩) ∧ FuB F' rb (c == 40) := by
 obtain ⟨hl,h0⟩ := hF
 have h' : G[rb]? = some (.cells false false [zS S,.int .i64 (at_ : Nat),lv,.int .i64 (many : Nat),.int .i64 0]) := h
 have lo := xAp h'
 have hs := fun H => xBC H hc
 have hcc : decide (((c.toNat : Nat) : Int) = 40) = (c == 40) := by
  rw [Bool.eq_iff_iff,decide_eq_true_iff,beq_iff_eq]
  constructor
  ·intro e
   have : c.toNat = 40 := by omega
   exact UInt8.toNat_inj.1 this
  ·intro e; subst e; rfl
 rw [xBg hl,h0]
 apply exu
 ·simp (maxSteps := 30000000) (disch := first|exact D5|fail) only [qc1,sqX,sqY,a43,WB,h',xAh,xAK,hs,hcc]
  rfl
 ·constructor <;> rfl
theorem yDc (hF : FuB F rb ins) (hi : ins = true) : ∃ F',run L qc2 ⟨F,G⟩ = some (.normal,⟨F',G⟩) ∧ FuB F' rb ins := by
 obtain ⟨hl,h0,h2⟩ := hF
 subst hi
 rw [xBg hl,h0,h2]
 apply exu
 ·simp (disch := omega) only [qc2,sqX,sqY,a43,WB,↓reduceIte]
  rfl
 ·constructor <;> rfl
theorem yDd (hF : FuB F rb ins) (hi : ins = false) (h : RS G rb S at_ lv many 0) (hc : S[at_]? = some c) (hsm : smB c = true) : ∃ F',run L qc2 ⟨F,G⟩ = some (.normal,⟨F',G⟩) ∧ FuB F' rb ins := by
 obtain ⟨hl,h0,h2⟩ := hF
 subst hi
 have hl' := xC8 h hc
 rw [hsm] at hl'
 rw [xBg hl,h0,h2]
 apply exu
 ·simp (disch := omega) only [qc2,sqX,sqY,a43,WB,↓reduceIte,hl']
  rfl
 ·constructor <;> rfl
theorem yBg (hF : FuB F rb ins) (hi : ins = false) (h : RS G rb S at_ lv many 0) (hc : S[at_]? = some c) (hsm : smB c = false) : ∃ F',run L qc2 ⟨F,G⟩ = some (.ret,⟨F',G.set rb (rsB S at_ lv many 2)⟩) ∧ True := by
 obtain ⟨hl,h0,h2⟩ := hF
 subst hi
 have hl' := xC8 h hc
 rw [hsm] at hl'
 have h' : G[rb]? = some (.cells false false [zS S,.int .i64 (at_ : Nat),lv,.int .i64 (many : Nat),.int .i64 0]) := h
 have lo := xAp h'
 rw [xBg hl,h0,h2]
 apply exu
 ·simp (disch := omega) only [qc2,sqX,sqY,a43,WB,↓reduceIte,hl',AV.cells,h',Nat.reduceAdd]
  rfl
 ·trivial
theorem u3 (hF : FuB F rb ins) (h : RS G rb S at_ lv many 0) (hm : many ≤ 64) : ∃ F',run L qc3 ⟨F,G⟩ = some (.normal,⟨F',G.set rb (rsB S at_ lv (many + 1) 0)⟩) ∧ FuB F' rb ins := by
 obtain ⟨hl,h0,h2⟩ := hF
 have h' : G[rb]? = some (.cells false false [zS S,.int .i64 (at_ : Nat),lv,.int .i64 (many : Nat),.int .i64 0]) := h
 have lo := xAp h'
 rw [xBg hl,h0,h2]
 apply exu
 ·simp (maxSteps := 30000000) (disch := first|exact D5|fail) only [qc3,sqX,sqY,a43,WB,h',AV.cells,↓reduceIte,Nat.reduceAdd]
  rfl
 ·constructor <;> rfl
theorem yDe (hF : FuB F rb ins) (h : RS G rb S at_ lv many 0) (hm : many ≤ 64) : ∃ F',run L qc4 ⟨F,G⟩ = some (.normal,⟨F',G⟩) ∧ FuB F' rb ins := by
 obtain ⟨hl,h0,h2⟩ := hF
 have h' : G[rb]? = some (.cells false false [zS S,.int .i64 (at_ : Nat),lv,.int .i64 (many : Nat),.int .i64 0]) := h
 have lo := xAp h'
 have hk : ((64 : Int) < (many : Nat)) = False := by simp; omega
 rw [xBg hl,h0,h2]
 apply exu
 ·simp (maxSteps := 30000000) (disch := first|exact D5|fail) only [qc4,sqX,sqY,a43,WB,h',hk,↓reduceIte]
  rfl
 ·constructor <;> rfl
theorem yBh (hF : FuB F rb ins) (h : RS G rb S at_ lv many 0) (hm : 64 < many) : ∃ F',run L qc4 ⟨F,G⟩ = some (.ret,⟨F',G.set rb (rsB S at_ lv many 4)⟩) ∧ True := by
 obtain ⟨hl,h0,h2⟩ := hF
 have h' : G[rb]? = some (.cells false false [zS S,.int .i64 (at_ : Nat),lv,.int .i64 (many : Nat),.int .i64 0]) := h
 have lo := xAp h'
 have hk : ((64 : Int) < (many : Nat)) = True := by simp; omega
 rw [xBg hl,h0,h2]
 apply exu
 ·simp (maxSteps := 30000000) (disch := first|exact D5|fail) only [qc4,sqX,sqY,a43,WB,h',hk,↓reduceIte,AV.cells,Nat.reduceAdd]
  rfl
 ·trivial
theorem u5t (hF : FuB F rb ins) (hi : ins = true) (h : RS G rb S at_ lv many 0) (hm : at_ ≤ 4096) : ∃ F',run L qc5 ⟨F,G⟩ = some (.normal,⟨F',G.set rb (rsB S (at_ + 1) lv many 0)⟩) ∧ FuB F' rb ins := by
 obtain ⟨hl,h0,h2⟩ := hF
 subst hi
 have h' : G[rb]? = some (.cells false false [zS S,.int .i64 (at_ : Nat),lv,.int .i64 (many : Nat),.int .i64 0]) := h
 have lo := xAp h'
 rw [xBg hl,h0,h2]
 apply exu
 ·simp (maxSteps := 30000000) (disch := first|exact D5|fail) only [qc5,sqX,sqY,a43,WB,↓reduceIte,h',AV.cells,Nat.reduceAdd]
  rfl
 ·constructor <;> rfl
theorem u5f (hF : FuB F rb ins) (hi : ins = false) : ∃ F',run L qc5 ⟨F,G⟩ = some (.normal,⟨F',G⟩) ∧ FuB F' rb ins := by
 obtain ⟨hl,h0,h2⟩ := hF
 subst hi
 rw [xBg hl,h0,h2]
 apply exu
 ·simp (disch := omega) only [qc5,sqX,sqY,a43,WB,↓reduceIte]
  rfl
 ·constructor <;> rfl
theorem u6 (hF : FuB F rb ins) (hn : L.icall (.func 76 []) [.ptr rb 0,.bool ins] G = some (.int .u8 (op : Nat),G1)) : ∃ F',run L qc6 ⟨F,G⟩ = some (.normal,⟨F',G1 ++ [xU op 0 (.sl true 0 []) 0 0 0]⟩) ∧ Fu F' rb ins G1.length := by
 obtain ⟨hl,h0,h2⟩ := hF
 rw [xBg hl,h0,h2]
 apply exu
 ·simp (maxSteps := 30000000) (disch := first|exact D5|fail) only [qc6,sqX,sqY,a43,WB,hn,AV.cells,↓reduceIte,Nat.reduceAdd,Nat.reduceLeDiff,AV.isCell,xBT,xES]
  rfl
 ·constructor <;> rfl
theorem yDf (hF : Fu F rb ins ix) (h : RS G rb S at_ lv many 0) : ∃ F',run L qc7 ⟨F,G⟩ = some (.normal,⟨F',G⟩) ∧ Fu F' rb ins ix := by
 obtain ⟨hl,h0,h2,h3⟩ := hF
 have h' : G[rb]? = some (.cells false false [zS S,.int .i64 (at_ : Nat),lv,.int .i64 (many : Nat),.int .i64 0]) := h
 have lo := xAp h'
 rw [xBg hl,h0,h2,h3]
 apply exu
 ·simp (disch := omega) only [qc7,sqX,sqY,a43,WB,h',↓reduceIte]
  rfl
 ·constructor <;> rfl
theorem yBi (hF : Fu F rb ins ix) (h : RS G rb S at_ lv many e) (he : e ≠ 0) : ∃ F',run L qc7 ⟨F,G⟩ = some (.ret,⟨F',G⟩) ∧ True := by
 obtain ⟨hl,h0,h2,h3⟩ := hF
 have h' : G[rb]? = some (.cells false false [zS S,.int .i64 (at_ : Nat),lv,.int .i64 (many : Nat),.int .i64 (e : Nat)]) := h
 have lo := xAp h'
 have heI : ¬ (((e : Nat) : Int) = 0) := by omega
 rw [xBg hl,h0,h2,h3]
 apply exu
 ·simp (maxSteps := 30000000) (disch := first|exact D5|fail) only [qc7,sqX,sqY,a43,WB,h',heI,↓reduceIte]
  rfl
 ·trivial
theorem yEP (hF : Fu F rb ins ix) (hop : op ≠ 2 ∧ op ≠ 3 ∧ op ≠ 7) (hx : G[ix]? = some (xU op nm av x a b)) : ∃ F',run L qc8 ⟨F,G⟩ = some (.normal,⟨F',G⟩) ∧ Fu F' rb ins ix := by
 obtain ⟨hl,h0,h2,h3⟩ := hF
 have lx := xAp hx
 have d2 : (((op : Nat) : Int) = 2) = False := by simp; omega
 have d3 : (((op : Nat) : Int) = 3) = False := by simp; omega
 have d7 : (((op : Nat) : Int) = 7) = False := by simp; omega
 rw [xBg hl,h0,h2,h3]
 apply exu
 ·simp (maxSteps := 30000000) (disch := first|exact D5|fail) only [qc8,sqX,sqY,a43,WB,hx,d2,↓reduceIte,d3,d7]
  rfl
 ·constructor <;> rfl
theorem yEQ (hF : Fu F rb ins ix) (hop : op = 7) (hx : G[ix]? = some (xU op nm av x a b)) {t : Int} (ht : 0 ≤ t ∧ t ≤ 255) (hn : L.icall (.func 77 []) [.ptr rb 0,.int .u8 120,.int .u8 122,.int .u8 120,.int .u8 122] G = some (.int .i64 t,G1)) (hx1 : G1[ix]? = some (xU op nm av x a b)) : ∃ F',run L qc8 ⟨F,G⟩ = some (.normal,⟨F',G1.set ix (xU op nm av (t - 112) a b)⟩) ∧ Fu F' rb ins ix := by
 obtain ⟨hl,h0,h2,h3⟩ := hF
 have lx := xAp hx
 have lx1 := xAp hx1
 have d2 : (((op : Nat) : Int) = 2) = False := by simp; omega
 have d3 : (((op : Nat) : Int) = 3) = False := by simp; omega
 have d7 : (((op : Nat) : Int) = 7) = True := by simp; omega
 have w1 : IntKind.i64.wrap (t - 120) = t - 120 := xRH (by omega) (by omega)
 have w2 : IntKind.i64.wrap (t - 120 + 8) = t - 112 := by rw [xRH (by omega) (by omega)]; omega
 rw [xBg hl,h0,h2,h3]
 apply exu
 ·simp (maxSteps := 30000000) (disch := first|exact D5|fail) only [qc8,sqX,sqY,a43,WB,hx,d2,↓reduceIte,d3,d7,hn,w1,w2,AV.cells,hx1,Nat.reduceAdd]
  rfl
 ·constructor <;> rfl
theorem yER (hF : Fu F rb ins ix) (hop : op = 3) (hx : G[ix]? = some (xU op nm av x a b)) {t t2 : Int} (hn : L.icall (.func 78 []) [.ptr rb 0] G = some (.int .i64 t,G1)) (hn2 : L.icall (.func 78 []) [.ptr rb 0] G1 = some (.int .i64 t2,G2)) (hx2 : G2[ix]? = some (xU op nm av x a b)) : ∃ F',run L qc8 ⟨F,G⟩ = some (.normal,⟨F',G2.set ix (xU op nm (.sl false 2 [.int .i64 t,.int .i64 t2]) x a b)⟩) ∧ Fu F' rb ins ix := by
 obtain ⟨hl,h0,h2,h3⟩ := hF
 have lx := xAp hx
 have lx2 := xAp hx2
 have d2 : (((op : Nat) : Int) = 2) = False := by simp; omega
 have d3 : (((op : Nat) : Int) = 3) = True := by simp; omega
 have d7 : (((op : Nat) : Int) = 7) = False := by simp; omega
 rw [xBg hl,h0,h2,h3]
 apply exu
 ·simp (maxSteps := 30000000) (disch := first|exact D5|fail) only [qc8,sqX,sqY,a43,WB,hx,d2,↓reduceIte,d3,hn,hn2,AV.cells,Nat.reduceAdd,Nat.reduceLeDiff,AV.isCell,hx2]
  rfl
 ·constructor <;> rfl
theorem yES (hF : Fu F rb ins ix) (hop : op = 2) (hx : G[ix]? = some (xU op nm av x a b)) {t : Int} {k' : AV} (ht : 0 ≤ t ∧ t ≤ 255) (hn : L.icall (.func 77 []) [.ptr rb 0,.int .u8 97,.int .u8 104,.int .u8 97,.int .u8 104] G = some (.int .i64 t,G1)) (hx1 : G1[ix]? = some (xU op nm av x a b)) (hlp : L.loop xCd xEp ⟨xBy (.ptr rb 0) (.bool ins) (.ptr ix 0) (.int .i64 0),G1.set ix (xU op (t - 97) av x a b)⟩ = some (.exit 1,⟨xBy (.ptr rb 0) (.bool ins) (.ptr ix 0) k',G2⟩)) : ∃ F',run L qc8 ⟨F,G⟩ = some (.normal,⟨F',G2⟩) ∧ Fu F' rb ins ix := by
 obtain ⟨hl,h0,h2,h3⟩ := hF
 have lx := xAp hx
 have lx1 := xAp hx1
 have d2 : (((op : Nat) : Int) = 2) = True := by simp; omega
 have d3 : (((op : Nat) : Int) = 3) = False := by simp; omega
 have d7 : (((op : Nat) : Int) = 7) = False := by simp; omega
 have w1 : IntKind.i64.wrap (t - 97) = t - 97 := xRH (by omega) (by omega)
 rw [xBg hl,h0,h2,h3]
 apply exu
 ·simp (maxSteps := 30000000) (disch := first|exact D5|fail) only [qc8,sqX,sqY,a43,WB,hx,d2,↓reduceIte,hn,w1,AV.cells,hx1,Nat.reduceAdd,xHQ,hlp]
  rfl
 ·constructor <;> rfl
theorem u9t (hF : Fu F rb ins ix) (hop : 1 ≤ chn op) (hx : G[ix]? = some (xU op nm av x a b)) {t : Int} (hn : L.icall (.func 80 []) [.ptr rb 0] G = some (.int .i64 t,G1)) (hx1 : G1[ix]? = some (xU op nm av x a b)) : ∃ F',run L qc9 ⟨F,G⟩ = some (.normal,⟨F',G1.set ix (xU op nm av x t b)⟩) ∧ Fu F' rb ins ix := by
 obtain ⟨hl,h0,h2,h3⟩ := hF
 have lx := xAp hx
 have lx1 := xAp hx1
 have hq := xUu op
 have hd : ((0 : Int) < ((chn op : Nat) : Int)) = True := by simp; omega
 rw [xBg hl,h0,h2,h3]
 apply exu
 ·simp (maxSteps := 30000000) (disch := first|exact D5|fail) only [qc9,sqX,sqY,a43,WB,hx,hq,xAN,xAt,↓reduceIte,hd,hn,AV.cells,hx1,Nat.reduceAdd]
  rfl
 ·constructor <;> rfl
theorem u9f (hF : Fu F rb ins ix) (hop : ¬ 1 ≤ chn op) (hx : G[ix]? = some (xU op nm av x a b)) : ∃ F',run L qc9 ⟨F,G⟩ = some (.normal,⟨F',G⟩) ∧ Fu F' rb ins ix := by
 obtain ⟨hl,h0,h2,h3⟩ := hF
 have lx := xAp hx
 have hq := xUu op
 have hcs := xBF op
 have hd : ((0 : Int) < ((chn op : Nat) : Int)) = False := by simp; omega
 rw [xBg hl,h0,h2,h3]
 apply exu
 ·simp (maxSteps := 30000000) (disch := first|exact D5|fail) only [qc9,sqX,sqY,a43,WB,hx,hq,xAN,xAt,↓reduceIte,hd]
  rfl
 ·constructor <;> rfl
theorem yET (hF : Fu F rb ins ix) (hop : chn op = 2) (hx : G[ix]? = some (xU op nm av x a b)) {t : Int} (hn : L.icall (.func 80 []) [.ptr rb 0] G = some (.int .i64 t,G1)) (hx1 : G1[ix]? = some (xU op nm av x a b)) : ∃ F',run L xZn ⟨F,G⟩ = some (.normal,⟨F',G1.set ix (xU op nm av x a t)⟩) ∧ Fu F' rb ins ix := by
 obtain ⟨hl,h0,h2,h3⟩ := hF
 have lx := xAp hx
 have lx1 := xAp hx1
 have hq := xUu op
 have hd : ((1 : Int) < ((chn op : Nat) : Int)) = True := by simp; omega
 rw [xBg hl,h0,h2,h3]
 apply exu
 ·simp (maxSteps := 30000000) (disch := first|exact D5|fail) only [xZn,sqX,sqY,a43,WB,hx,hq,xAN,xAt,↓reduceIte,hd,hn,AV.cells,hx1,Nat.reduceAdd]
  rfl
 ·constructor <;> rfl
theorem yEU (hF : Fu F rb ins ix) (hop : ¬ chn op = 2) (hx : G[ix]? = some (xU op nm av x a b)) : ∃ F',run L xZn ⟨F,G⟩ = some (.normal,⟨F',G⟩) ∧ Fu F' rb ins ix := by
 obtain ⟨hl,h0,h2,h3⟩ := hF
 have lx := xAp hx
 have hq := xUu op
 have hcs := xBF op
 have hd : ((1 : Int) < ((chn op : Nat) : Int)) = False := by simp; omega
 rw [xBg hl,h0,h2,h3]
 apply exu
 ·simp (maxSteps := 30000000) (disch := first|exact D5|fail) only [xZn,sqX,sqY,a43,WB,hx,hq,xAN,xAt,↓reduceIte,hd]
  rfl
 ·constructor <;> rfl
theorem yEV (hF : Fu F rb ins ix) (hi : ins = true) (hn : L.icall (.func 81 []) [.ptr rb 0,.int .u8 41] G = some (.tup [],G1)) : ∃ F',run L xZo ⟨F,G⟩ = some (.normal,⟨F',G1⟩) ∧ Fu F' rb ins ix := by
 obtain ⟨hl,h0,h2,h3⟩ := hF
 subst hi
 rw [xBg hl,h0,h2,h3]
 apply exu
 ·simp (disch := omega) only [xZo,sqX,sqY,a43,WB,↓reduceIte,hn]
  rfl
 ·constructor <;> rfl
theorem yEW (hF : Fu F rb ins ix) (hi : ins = false) : ∃ F',run L xZo ⟨F,G⟩ = some (.normal,⟨F',G⟩) ∧ Fu F' rb ins ix := by
 obtain ⟨hl,h0,h2,h3⟩ := hF
 subst hi
 rw [xBg hl,h0,h2,h3]
 apply exu
 ·simp (disch := omega) only [xZo,sqX,sqY,a43,WB,↓reduceIte]
  rfl
 ·constructor <;> rfl
end
end Go.Abs.Events
