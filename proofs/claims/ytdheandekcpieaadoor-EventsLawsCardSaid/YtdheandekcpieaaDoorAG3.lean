/- The law Laws: its strings and formulas. -/
import Derived.Test.YtdheandekcpieaaDoorAbsBun
import Derived.Test.YtdheandekcpieaaDoorAMG
import Derived.Test.YtdheandekcpieaaDoorAMF
import Derived.Test.YtdheandekcpieaaDoorAME
namespace Go.Abs.Events
open Go Go.Abs
set_option linter.unusedSimpArgs false
set_option linter.unusedVariables false
theorem xXj : ∀ (t : Tr) (p : Nat),∀ n ∈ t.nd p,WN n
 | .t0 n,p,m,hm => by
  obtain rfl := List.mem_singleton.1 hm
  rfl
 | .t1 n a,p,m,hm => by
  rw [xO2] at hm
  rcases List.mem_append.1 hm with hm | hm
  ·exact xXj a p m hm
  ·obtain rfl := List.mem_singleton.1 hm
   rfl
 | .t2 n a b,p,m,hm => by
  rw [xO3] at hm
  rcases List.mem_append.1 hm with hm | hm
  ·rcases List.mem_append.1 hm with hm | hm
   ·exact xXj a p m hm
   ·exact xXj b _ m hm
  ·obtain rfl := List.mem_singleton.1 hm
   rfl
theorem yC1 {t : Tr} (h : t.ok) (hz : t.sz ≤ 64) : pnp t.tt = true := by
 have hl := xLK t h
 have := xFK t h (t.tt.length + 1) 0 [] [] (by omega) (by omega) (by intro c hc; cases hc)
 rw [List.append_nil] at this
 unfold pnp
 rw [this]
 simp
def VV (T : Tr) (l : List Ev) : List Bool := (List.range (xBo 12 l).length).map fun m => T.va (xBo 12 l) m 0
theorem xQR (T : Tr) (l : List Ev) : (VV T l).length = (xBo 12 l).length := by simp [VV]
theorem xVw {T : Tr} (h : T.ok) (hz : T.sz ≤ 64) (ho : T.op 0 = false) : L.pcall 39 [zS T.tt] = some (.sl false (T.nd 0).length (nds (T.nd 0))) := by
 have h12 := yAU (yC1 h hz)
 have hp := xXg h hz
 rw [xOs T h,ho,if_neg (by simp)] at hp
 rw [hp] at h12
 have hne : (T.nd 0).isEmpty = false := by
  have h1 := T.nd_len 0
  have h2 := T.sz_pos
  cases hn : T.nd 0 with
  | nil => rw [hn,List.length_nil] at h1; omega
  | cons _ _ => rfl
 dsimp only at h12
 rw [hne] at h12
 exact xHj h12 (xEc _ _ _ _)
theorem yAV {T : Tr} (h : T.ok) (hz : T.sz ≤ 64) (ho : T.op 0 = false) (z : Bool) (l : List Ev) (hl : l.length ≤ 9223372036854775807) : L.pcall 33 [.sl false (T.nd 0).length (nds (T.nd 0)),.sl z l.length (evs l),.int .i64 12] =
  some (.tup [.sl (xBo 12 l).isEmpty (xBo 12 l).length (bls (VV T l)),.sl (xBo 12 l).isEmpty (xBo 12 l).length (evs (xBo 12 l)),.bool true]) := by
 have hc := xSA h hz ho
 have hn := T.nd_len 0
 have := xRF (fs := T.nd 0) (fun j hj => xXj T 0 _ (by rw [List.getD_eq_getElem?_getD,List.getElem?_eq_getElem hj]; exact List.getElem_mem hj)) (by omega) false (fun _ => rfl) z l hl
 rw [if_pos hc,decide_eq_true hc,yDn h hc] at this
 exact this
theorem yFb (S : Tr) (l : List Ev) : VV (T1 S) l = VV (T2 S) l := by unfold VV; rw [yDy]
theorem yFc (S T : Tr) (l : List Ev) : VV (T3 S T) l = VV (T4 S T) l := by unfold VV; rw [yDz]
theorem yGT (l : List Ev) : VV X1 l = VV (DD 7) l := by
 unfold VV
 exact List.map_congr_left fun m _ => yFL m
def xCs (fs : List Nd) : List Nd := (xCL fs).take 15
theorem xEy (fs : List Nd) : (xCs fs).length = min (xCL fs).length 15 := by simp [xCs,Nat.min_comm]
theorem yAW (fs : List Nd) : ∀ n ∈ xCs fs,n.z = n.args.isEmpty := by
 intro n hm
 have := List.mem_of_mem_take hm
 unfold xCL at this
 obtain ⟨m,-,hn⟩ := List.mem_map.1 this
 rw [← hn]; rfl
theorem xEz (fs : List Nd) : min (((xCL fs).length : Nat) : Int) 15 = ((xCs fs).length : Nat) := by rw [xEy]; omega
theorem xGB (fs : List Nd) : xA1 (xCL fs).length none (some (.int .i64 ((xCs fs).length : Nat))) none = some (0,(xCs fs).length) := by
 rw [xFz (Int.natCast_nonneg _) (by rw [xEy]; omega)]
 simp
theorem xGC (fs : List Nd) : List.take ((xCs fs).length * 6) (nds (xCL fs)) = nds (xCs fs) := by
 have h : xCL fs = xCs fs ++ (xCL fs).drop 15 := (List.take_append_drop 15 _).symm
 have h2 : nds (xCL fs) = nds (xCs fs) ++ nds ((xCL fs).drop 15) := by rw [xUX,← h]
 rw [h2,List.take_append_of_le_length (by rw [xAc]; omega),xHl]
theorem yAX {fs : List Nd} (h : chk (xCs fs) = 0) : ∃ T : Tr,T.ok ∧ T.sz ≤ 15 ∧ T.op 0 = false ∧ fmt (xCs fs) = T.tt := by
 obtain ⟨T,h1,h2,h3,h4,h5⟩ := yC0 h (yAW fs)
 have hl := xEy fs
 refine ⟨T,h1,by omega,?_,?_⟩
 ·rw [← xOs T h1,← h2]; exact h5
 ·unfold fmt
  rw [if_pos h]; exact h4
def xVC : List UInt8 := (40 :: 115 :: 105 :: 110 :: 99 :: 101 :: 32 :: 40 :: 110 :: 111 :: 116 :: 32 :: 40 :: 101 :: 120 :: 105 :: 115 :: 116 :: 115 :: 32 :: 121 :: 32 :: 40 :: 97 :: 116 :: 32 :: 97 :: 32 :: 121 :: 41 :: 41 :: 41 :: 32 :: 40 :: 97 :: 116 :: 32 :: 97 :: 32 :: [])
theorem yAY (nm t : Int) : (Tr.t0 (atN nm t)).tt = [40,97,116,32,nmB nm,32,spB t,41] := by
 show wrp 2 (Lib.join (hdW (atN nm t) ++ []) [32]) = _
 unfold wrp
 rw [if_neg (by decide),xCc]
 rfl
theorem yFd : NY.tt = (40 :: 110 :: 111 :: 116 :: 32 :: 40 :: 101 :: 120 :: 105 :: 115 :: 116 :: 115 :: 32 :: 121 :: 32 :: 40 :: 97 :: 116 :: 32 :: 97 :: 32 :: 121 :: 41 :: 41 :: 41 :: []) := by
 show (Tr.t1 (nOp 4) (.t1 (exN 9) (.t0 (atN 0 9)))).tt = _
 rw [tt1 _ _ (by decide),tt1 _ _ (by decide),yAY]
 rfl
theorem yAZ (t : Int) : (CC t).tt = [40,97,110,100,32,40,97,116,32,98,32] ++ [spB t] ++ [41,32] ++ xVC ++ [spB t] ++ [41,41,41] := by
 show (Tr.t2 (nOp 5) (.t0 (atN 1 t)) (.t2 (nOp 9) NY (.t0 (atN 0 t)))).tt = _
 rw [tt2 _ _ _ (by decide),tt2 _ _ _ (by decide),yAY,yAY,yFd]
 rfl
theorem yFe (k : Nat) : (DD (k + 1)).tt = [40,111,114,32] ++ (DD k).tt ++ [32,40,97,110,100,32,40,97,116,32,98,32] ++ [spB (k + 1 : Nat)] ++ [41,32] ++ xVC ++ [spB (k + 1 : Nat)] ++ [41,41,41,41] := by
 show (Tr.t2 (nOp 6) (DD k) (CC (k + 1 : Nat))).tt = _
 rw [tt2 _ _ _ (by decide),yAZ]
 show 40 :: ([111,114] ++ ([] ++ ([] ++ ([] ++ 32 :: ((DD k).tt ++ 32 :: ([40,97,110,100,32,40,97,116,32,98,32] ++ [spB (k + 1 : Nat)] ++ [41,32] ++ xVC ++ [spB (k + 1 : Nat)] ++ [41,41,41]))))) ++ [41]) = _
 simp
theorem yFf : (DD 0).tt = [40,97,110,100,32,40,97,116,32,98,32,48,41,32] ++ xVC ++ [48,41,41,41] := by
 show (CC 0).tt = _
 rw [yAZ]
 rfl
theorem yFg : X1.tt = [40,101,120,105,115,116,115,32,120,32,40,97,110,100,32,40,97,116,32,98,32,120,41,32] ++ (40 :: 115 :: 105 :: 110 :: 99 :: 101 :: 32 :: 40 :: 110 :: 111 :: 116 :: 32 :: 40 :: 101 :: 120 :: 105 :: 115 :: 116 :: 115 :: 32 :: 121 :: 32 :: 40 :: 97 :: 116 :: 32 :: 97 :: 32 :: 121 :: 41 :: 41 :: 41 :: 32 :: 40 :: 97 :: 116 :: 32 :: 97 :: 32 :: 120 :: 41 :: 41 :: []) ++ [41,41] := by
 show (Tr.t1 (exN 8) (CC 8)).tt = _
 rw [tt1 _ _ (by decide),yAZ]
 rfl
theorem yC2 : ∀ k,(DD k).sz = 8 * k + 7
 | 0 => rfl
 | k + 1 => by
  show (DD k).sz + 7 + 1 = _
  rw [yC2 k]; omega
theorem yC3 {k : Nat} (H : Heap) (h : k ≤ 7) : xWP H (.str ⟨#[48,49,50,51,52,53,54,55]⟩) (some (.int .i64 (k : Nat))) (some (.int .i64 ((k + 1 : Nat) : Int))) = some (zS [spB (k : Nat)],H) := by
 have h : k = 0 ∨ k = 1 ∨ k = 2 ∨ k = 3 ∨ k = 4 ∨ k = 5 ∨ k = 6 ∨ k = 7 := by omega
 rcases h with rfl | rfl | rfl | rfl | rfl | rfl | rfl | rfl <;> rfl
theorem yGU {a b c d e f g h : List UInt8} (ha : a.length ≤ 1000) (hb : b.length ≤ 10000) (hc : c.length ≤ 1000) (hd : d.length ≤ 1000) (he : e.length ≤ 1000) (hf : f.length ≤ 1000) (hg : g.length ≤ 1000) (hh : h.length ≤ 1000) : ∃ u1 u2 u3 u4 u5 u6,(∀ H,xEM H (zS a) (zS b) = some (u1,H)) ∧ (∀ H,xEM H u1 (zS c) = some (u2,H)) ∧ (∀ H,xEM H u2 (zS d) = some (u3,H)) ∧ (∀ H,xEM H u3 (zS e) = some (u4,H)) ∧ (∀ H,xEM H u4 (zS f) = some (u5,H)) ∧ (∀ H,xEM H u5 (zS g) = some (u6,H)) ∧ (∀ H,xEM H u6 (zS h) = some (zS (a ++ b ++ c ++ d ++ e ++ f ++ g ++ h),H)) ∧ (xAI u1 && xAI u2 && xAI u3 && xAI u4 && xAI u5 && xAI u6) = true :=
 ⟨_,_,_,_,_,_,fun H => xBc H (by omega) (by omega),fun H => xBc H (by simp; omega) (by omega),fun H => xBc H (by simp; omega) (by omega),fun H => xBc H (by simp; omega) (by omega),fun H => xBc H (by simp; omega) (by omega),fun H => xBc H (by simp; omega) (by omega),fun H => xBc H (by simp; omega) (by omega),rfl⟩
theorem yA0 {R : Rec} {F : List AV} {H : Heap} (x y : Arg) : xBi R F H (.sadd x y) = xLf H (xAa R F H (.sadd x y)) := xEA _ rfl
theorem xVx {R : Rec} {F : List AV} {H : Heap} (x : Arg) (lo hi : Option Arg) : xBi R F H (.sslice x lo hi) = xLf H (xAa R F H (.sslice x lo hi)) := xEA _ rfl
section
variable {s2 : AV}
set_option maxRecDepth 100000 in
set_option maxHeartbeats 4000000 in
theorem yC4 : ∀ e k,e + k = 7 → ∀ H,L.loop xKb xT8 ⟨xIx s2 (.str ⟨(40 :: 115 :: 105 :: 110 :: 99 :: 101 :: 32 :: 40 :: 110 :: 111 :: 116 :: 32 :: 40 :: 101 :: 120 :: 105 :: 115 :: 116 :: 115 :: 32 :: 121 :: 32 :: 40 :: 97 :: 116 :: 32 :: 97 :: 32 :: 121 :: 41 :: 41 :: 41 :: 32 :: 40 :: 97 :: 116 :: 32 :: 97 :: 32 :: 120 :: 41 :: 41 :: []).toArray⟩) (zS (DD k).tt) (.int .i64 ((k + 1 : Nat) : Int)),H⟩ = some (.exit 0,⟨xIx s2 (.str ⟨(40 :: 115 :: 105 :: 110 :: 99 :: 101 :: 32 :: 40 :: 110 :: 111 :: 116 :: 32 :: 40 :: 101 :: 120 :: 105 :: 115 :: 116 :: 115 :: 32 :: 121 :: 32 :: 40 :: 97 :: 116 :: 32 :: 97 :: 32 :: 121 :: 41 :: 41 :: 41 :: 32 :: 40 :: 97 :: 116 :: 32 :: 97 :: 32 :: 120 :: 41 :: 41 :: []).toArray⟩) (zS (DD 7).tt) (.int .i64 8),H⟩) := by
 intro e
 induction e with
 | zero =>
  intro k hk H
  obtain rfl : k = 7 := by omega
  rw [xX6]
  simp (disch := omega) only [xQf,Nat.reduceAdd,WB,↓reduceIte,xT9]
 | succ e ih =>
  intro k hk H
  have hlt : (((k + 1 : Nat) : Int) < 8) = True := by simp; omega
  have hls : (DD k).tt.length ≤ 1280 := by
   have h1 := xLK (DD k) (xYV k (by omega))
   have h2 := yC2 k
   omega
  have hsp := fun H => yC3 (k := k + 1) H (by omega)
  have hob : ∀ H,xWP H (.str ⟨(40 :: 115 :: 105 :: 110 :: 99 :: 101 :: 32 :: 40 :: 110 :: 111 :: 116 :: 32 :: 40 :: 101 :: 120 :: 105 :: 115 :: 116 :: 115 :: 32 :: 121 :: 32 :: 40 :: 97 :: 116 :: 32 :: 97 :: 32 :: 121 :: 41 :: 41 :: 41 :: 32 :: 40 :: 97 :: 116 :: 32 :: 97 :: 32 :: 120 :: 41 :: 41 :: []).toArray⟩) none (some (.int .i64 39)) = some (zS xVC,H) := fun H => rfl
  have hsz : (⟨(40 :: 115 :: 105 :: 110 :: 99 :: 101 :: 32 :: 40 :: 110 :: 111 :: 116 :: 32 :: 40 :: 101 :: 120 :: 105 :: 115 :: 116 :: 115 :: 32 :: 121 :: 32 :: 40 :: 97 :: 116 :: 32 :: 97 :: 32 :: 121 :: 41 :: 41 :: 41 :: 32 :: 40 :: 97 :: 116 :: 32 :: 97 :: 32 :: 120 :: 41 :: 41 :: []).toArray⟩ : ByteArray).size = 42 := rfl
  obtain ⟨u1,u2,u3,u4,u5,u6,q1,q2,q3,q4,q5,q6,q7,-⟩ := yGU (a := [40,111,114,32]) (b := (DD k).tt) (c := [32,40,97,110,100,32,40,97,116,32,98,32]) (d := [spB (k + 1 : Nat)]) (e := [41,32]) (f := xVC) (g := [spB (k + 1 : Nat)]) (h := [41,41,41,41]) (by decide) (by omega) (by decide) (by simp) (by decide) (by decide) (by simp) (by decide)
  rw [← yFe] at q7
  have := ih (k + 1) (by omega) H
  generalize zS (DD (k + 1)).tt = D1 at *
  generalize zS (DD k).tt = D0 at *
  generalize zS (DD 7).tt = D7 at *
  generalize zS xVC = OB at *
  generalize zS [spB ((k + 1 : Nat) : Int)] = DG at *
  rw [xX6]
  simp (disch := omega) only [xQf,WB,hlt,↓reduceIte,yA0,xE1,q1,q2,xVx,xCd,hsp,q3,q4,WA,hsz,Int.reduceSub,hob,q5,xAm,q6,q7,xT9,this]
end
end Go.Abs.Events
