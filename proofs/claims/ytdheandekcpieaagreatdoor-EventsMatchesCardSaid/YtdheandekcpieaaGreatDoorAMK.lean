/- The reference's text of a formula. -/
import Derived.Test.YtdheandekcpieaaGreatDoorAbsBun
import Derived.Test.YtdheandekcpieaaGreatDoorAMP
import Derived.Test.YtdheandekcpieaaGreatDoorAMF
import Derived.Test.YtdheandekcpieaaGreatDoorAMD
import Derived.Test.YtdheandekcpieaaGreatDoorAME
import Derived.Test.YtdheandekcpieaaGreatDoorAMI
namespace Go.Abs.Events
open Go Go.Abs
set_option maxHeartbeats 8000000
set_option linter.unusedSimpArgs false
set_option linter.unusedVariables false
theorem yBU {fs : List Nd} (h : chk fs = 0) (hz : ∀ n ∈ fs,n.z = n.args.isEmpty) : ∀ j,j < fs.length → Hd (fs.getD j nd0) ∧ (txt fs j).length ≤ 1280 := by
 obtain ⟨h0,hl,hV⟩ := xIk h
 unfold chk at h
 rw [if_neg (by omega),if_neg (by omega)] at h
 split at h
 case isFalse q => exact absurd h q
 rename_i hc
 have hI : ∀ j,j < fs.length → (szs fs []).getD j 0 ≤ j + 1 := by
  intro j hj
  exact xYk fs [] (by simp) j (by rw [xDS]; simpa using hj)
 intro j hj
 have hall := xK9 fs [] (by simpa using hc) j hj
 simp only [List.length_nil,Nat.zero_add] at hall
 refine ⟨(xVl hall.1).1,?_⟩
 obtain ⟨t,h1,h2,-,h4⟩ := yCY hc hz hV hI j hj
 have := (xXd t h1).1
 have := hI j hj
 rw [h4]
 omega
theorem xJ2 {a b c : List UInt8} (H : Heap) (ha : a.length ≤ 1000000) (hb : b.length ≤ 1000000) (h : a ++ b = c) : xQr H (zS a) (zS b) = some (zS c,H) := by rw [xDW H ha hb,h]
theorem xX5 {t : Int} (h0 : 0 ≤ t) (h1 : t ≤ 10) : L.pcall 67 [.int .i64 t] = some (zS [spB t]) := by
 have hs := fun H => xU8 H h0 h1
 rw [yFG,a67,xAa]
 simp (disch := omega) only [WB,Nat.reduceSub,xCZ,hs]
theorem xWu : L.pcall 66 [.int .u8 (1 : Nat)] = some (.str (fnm 1)) := by
 rw [xVu,a66,xAa]
 simp (disch := omega) only [WB,Nat.reduceSub,AV.cells,↓reduceIte,Nat.reduceAdd,Nat.reduceLeDiff,AV.isCell]
 rfl
theorem xWv : L.pcall 66 [.int .u8 (2 : Nat)] = some (.str (fnm 2)) := by
 rw [xVu,a66,xAa]
 simp (disch := omega) only [WB,Nat.reduceSub,AV.cells,↓reduceIte,Nat.reduceAdd,Nat.reduceLeDiff,AV.isCell,Int.reduceToNat]
 rfl
theorem xWw : L.pcall 66 [.int .u8 (3 : Nat)] = some (.str (fnm 3)) := by
 rw [xVu,a66,xAa]
 simp (disch := omega) only [WB,Nat.reduceSub,AV.cells,↓reduceIte,Nat.reduceAdd,Nat.reduceLeDiff,AV.isCell,Int.reduceToNat]
 rfl
theorem xWx : L.pcall 66 [.int .u8 (4 : Nat)] = some (.str (fnm 4)) := by
 rw [xVu,a66,xAa]
 simp (disch := omega) only [WB,Nat.reduceSub,AV.cells,↓reduceIte,Nat.reduceAdd,Nat.reduceLeDiff,AV.isCell,Int.reduceToNat]
 rfl
theorem xWy : L.pcall 66 [.int .u8 (5 : Nat)] = some (.str (fnm 5)) := by
 rw [xVu,a66,xAa]
 simp (disch := omega) only [WB,Nat.reduceSub,AV.cells,↓reduceIte,Nat.reduceAdd,Nat.reduceLeDiff,AV.isCell,Int.reduceToNat]
 rfl
theorem xWz : L.pcall 66 [.int .u8 (6 : Nat)] = some (.str (fnm 6)) := by
 rw [xVu,a66,xAa]
 simp (disch := omega) only [WB,Nat.reduceSub,AV.cells,↓reduceIte,Nat.reduceAdd,Nat.reduceLeDiff,AV.isCell,Int.reduceToNat]
 rfl
theorem xWA : L.pcall 66 [.int .u8 (7 : Nat)] = some (.str (fnm 7)) := by
 rw [xVu,a66,xAa]
 simp (disch := omega) only [WB,Nat.reduceSub,AV.cells,↓reduceIte,Nat.reduceAdd,Nat.reduceLeDiff,AV.isCell,Int.reduceToNat]
 rfl
theorem xWB : L.pcall 66 [.int .u8 (8 : Nat)] = some (.str (fnm 8)) := by
 rw [xVu,a66,xAa]
 simp (disch := omega) only [WB,Nat.reduceSub,AV.cells,↓reduceIte,Nat.reduceAdd,Nat.reduceLeDiff,AV.isCell,Int.reduceToNat]
 rfl
theorem xWC : L.pcall 66 [.int .u8 (9 : Nat)] = some (.str (fnm 9)) := by
 rw [xVu,a66,xAa]
 simp (disch := omega) only [WB,Nat.reduceSub,AV.cells,↓reduceIte,Nat.reduceAdd,Nat.reduceLeDiff,AV.isCell,Int.reduceToNat]
 rfl
theorem xUk : L.pcall 66 [.int .u8 (10 : Nat)] = some (.str (fnm 10)) := by
 rw [xVu,a66,xAa]
 simp (disch := omega) only [WB,Nat.reduceSub,AV.cells,↓reduceIte,Nat.reduceAdd,Nat.reduceLeDiff,AV.isCell,Int.reduceToNat]
 rfl
theorem yBV {op : Nat} (h1 : 1 ≤ op) (h2 : op ≤ 10) : L.pcall 66 [.int .u8 (op : Nat)] = some (zS (opB op)) := by
 rw [← xYj]
 have : op = 1 ∨ op = 2 ∨ op = 3 ∨ op = 4 ∨ op = 5 ∨ op = 6 ∨ op = 7 ∨ op = 8 ∨ op = 9 ∨ op = 10 := by omega
 rcases this with rfl | rfl | rfl | rfl | rfl | rfl | rfl | rfl | rfl | rfl
 ·exact xWu
 ·exact xWv
 ·exact xWw
 ·exact xWx
 ·exact xWy
 ·exact xWz
 ·exact xWA
 ·exact xWB
 ·exact xWC
 ·exact xUk
section
variable {s0 : AV} {n : Nd} {G : Heap} {p : Nat}
theorem xZs (har : ∀ t ∈ n.args,0 ≤ t ∧ t ≤ 10) (hl : n.args.length ≤ 100) (gp : G[p]? = some (.cells false false n.c)) : ∀ k i,i + k = n.args.length → ∀ S : List UInt8,S.length + 2 * k ≤ 10000 →
  L.loop xJD xTQ ⟨xHK s0 (.ptr p 0) (zS S) (.int .i64 (i : Nat)),G⟩ = some (.exit 0,⟨xHK s0 (.ptr p 0) (zS (S ++ aT (n.args.drop i))) (.int .i64 (n.args.length : Nat)),G⟩) := by
 have hnv : xA2 n.z n.args = .sl n.z n.args.length (xAB n.args) := rfl
 unfold Nd.c at gp
 rw [hnv] at gp
 intro k
 induction k with
 | zero =>
  intro i hi S hS
  obtain rfl : i = n.args.length := by omega
  rw [List.drop_length,show aT [] = [] from rfl,List.append_nil,xXU]
  simp (maxSteps := 30000000) (disch := first|exact D5|fail) only [xPT,WB,gp,↓reduceIte,xHL]
 | succ k ih =>
  intro i hi S hS
  have hlt : i < n.args.length := by omega
  have hltI : ((i : Nat) : Int) < (n.args.length : Nat) := by omega
  have em : n.args.drop i = n.args.getD i 0 :: n.args.drop (i + 1) := xB9 hlt
  have hm' : n.args.getD i 0 ∈ n.args := by rw [List.getD_eq_getElem?_getD,List.getElem?_eq_getElem hlt]; exact List.getElem_mem hlt
  have hr := har _ hm'
  rw [em,xU7]
  generalize hN : n.args.getD i 0 = t at *
  have h67 := xX5 hr.1 hr.2
  have q1 := fun H => xJ2 (a := S) (b := [32]) H (by omega) (by simp) rfl
  have q2 := fun H => xJ2 (a := S ++ [32]) (b := [spB t]) H (by simp; omega) (by simp) rfl
  have e1 := ih (i + 1) (by omega) (S ++ [32] ++ [spB t]) (by simp; omega)
  rw [show S ++ 32 :: spB t :: aT (n.args.drop (i + 1)) = S ++ [32] ++ [spB t] ++ aT (n.args.drop (i + 1)) by simp,← e1]
  clear ih e1
  generalize S ++ [32] ++ [spB t] = S2 at *
  generalize S ++ [32] = S1 at *
  generalize [spB t] = b1 at *
  rw [xXU]
  simp (maxSteps := 30000000) (disch := first|exact D5|fail) only [xPT,WB,gp,hltI,↓reduceIte,xCx,q1,W2,hN,h67,xAA,xAm,q2,xHL]
end
theorem yBW (op : Nat) : (opB op).length ≤ 8 := xVj op
theorem xX6 : ∀ us : List Int,(aT us).length = 2 * us.length
 | [] => rfl
 | t :: us => by rw [xU7,List.length_cons,List.length_cons,xX6 us,List.length_cons]; omega
section
variable {fz : Bool} {fs : List Nd}
theorem xWD {n : Nd} (h1 : n.op ≠ 1) (T : List (List UInt8)) : wrp n.op (Lib.join (hdW n ++ T) [32]) = 40 :: (opB n.op ++ ((if n.op = 2 then [32,nmB n.name] else []) ++ ((if n.op = 7 then [32,spB n.x] else []) ++ (aT n.args ++ jt T))) ++ [41]) := by
 unfold wrp
 rw [if_neg h1,xNq]
theorem yBX (hl : fs.length ≤ 64) (hV : ∀ j,j < fs.length → Vn j (fs.getD j nd0)) (hA : ∀ j,j < fs.length → Hd (fs.getD j nd0) ∧ (txt fs j).length ≤ 1280) : ∀ i,i < fs.length → L.pcall 35 [.sl fz fs.length (nds fs),.int .i64 (i : Nat)] = some (zS (txt fs i)) := by
 intro i
 induction i using Nat.strongRecOn with
 | _ i ih =>
  intro hi
  have hiI : ((i : Nat) : Int) < (fs.length : Nat) := by omega
  have hv := hV i hi
  have hd := (hA i hi).1
  have hte := xVa hV hi
  have h79 := xWM (fs.getD i nd0).op
  generalize hn : fs.getD i nd0 = n at *
  have hnv : xA2 n.z n.args = .sl n.z n.args.length (xAB n.args) := rfl
  have hO := yBW n.op
  have har := hv.ar
  have hal := hv.al
  have hna := hd.nm
  have hrec : ∀ j : Int,0 ≤ j → j < (i : Nat) → L.pcall 35 [.sl fz fs.length (nds fs),.int .i64 j] = some (zS (txt fs j.toNat)) ∧ (txt fs j.toNat).length ≤ 1280 := fun j h0 h1 => by
   obtain ⟨j,rfl⟩ := Int.eq_ofNat_of_zero_le h0
   exact ⟨ih j (by omega) (by omega),(hA j (by omega)).2⟩
  clear ih
  by_cases c1 : n.op = 1
  ·have c1' : ((n.op : Nat) : Int) = 1 := by omega
   have hk : xAD n = [] := by unfold xAD; rw [c1]; rfl
   have hr : txt fs i = [116,114,117,101] := by
    rw [hte,hk,List.map_nil]
    unfold wrp
    rw [if_pos c1,xNq,c1]
    have ha0 : n.args = [] := by
     have := hd.hi
     rw [c1] at this
     exact List.eq_nil_of_length_eq_zero (by simpa [fhi] using this)
    rw [ha0]
    rfl
   rw [hr,yAL,a35,xAa]
   simp (maxSteps := 30000000) (disch := first|exact D5|fail) only [WB,Nat.reduceAdd,Nat.reduceSub,xAs,Nd.c,hn,c1',hnv,AV.cells,AV.isCell,↓reduceIte]
  have c1' : ¬ ((n.op : Nat) : Int) = 1 := by omega
  have h66 := yBV hv.op.1 hv.op.2
  rw [xWD c1] at hte
  have q1 := fun H => xJ2 (a := [40]) (b := opB n.op) H (by simp) (by omega) rfl
  rw [List.singleton_append] at q1
  have lp := fun (S : List UInt8) (hS : S.length ≤ 100) => xZs (s0 := .sl fz fs.length (nds fs)) (p := 0) (n := n) (G := [.cells false false n.c]) har hal rfl n.args.length 0 (by omega) S (by omega)
  have lp' : ∀ S : List UInt8,S.length ≤ 100 → L.loop xJD xTQ ⟨xHK (.sl fz fs.length (nds fs)) (.ptr 0 0) (zS S) (.int .i64 0),[.cells false false [.int .u8 (n.op : Nat),.int .i64 n.name,.sl n.z n.args.length (xAB n.args),.int .i64 n.x,.int .i64 n.a,.int .i64 n.b]]⟩ =
   some (.exit 0,⟨xHK (.sl fz fs.length (nds fs)) (.ptr 0 0) (zS (S ++ aT n.args)) (.int .i64 (n.args.length : Nat)),[.cells false false [.int .u8 (n.op : Nat),.int .i64 n.name,.sl n.z n.args.length (xAB n.args),.int .i64 n.x,.int .i64 n.a,.int .i64 n.b]]⟩) := fun S hS => by
   have := lp S hS
   rw [List.drop_zero] at this
   exact this
  clear lp
  have hau := xX6 n.args
  generalize hOe : opB n.op = O at *
  generalize hAe : aT n.args = A at *
  have h79' : L.pcall 62 [.int .u8 (n.op : Nat)] = some (.int .i64 (chn n.op : Nat)) := h79
  clear h79
  have hax : n.args.length ≤ 2 := xLa hd
  by_cases c2 : n.op = 2
  ·have c2' : (((n.op : Nat) : Int) = 2) = True := eq_true (by omega)
   have hk : xAD n = [] := by unfold xAD; rw [c2]; rfl
   have hcn : chn n.op = 0 := by rw [c2]; rfl
   have c7 : ¬ n.op = 7 := by omega
   rw [hk,List.map_nil,xYi,if_pos c2,if_neg c7] at hte
   have hsl := fun H => xU9 H hna.1 hna.2
   have q2 := fun H => xJ2 (a := 40 :: O) (b := [32]) H (by simp; omega) (by simp) rfl
   have q3 := fun H => xJ2 (a := 40 :: O ++ [32]) (b := [nmB n.name]) H (by simp; omega) (by simp) rfl
   have lq := lp' (40 :: O ++ [32] ++ [nmB n.name]) (by simp; omega)
   have q4 := fun H => xJ2 (a := 40 :: O ++ [32] ++ [nmB n.name] ++ A) (b := [41]) H (by simp; omega) (by simp) rfl
   have hfin : txt fs i = 40 :: O ++ [32] ++ [nmB n.name] ++ A ++ [41] := by rw [hte]; simp
   rw [hfin]
   rw [hcn] at h79'
   simp only [Int.natCast_zero] at h79'
   clear lp' hfin hte
   generalize 40 :: O ++ [32] ++ [nmB n.name] ++ A ++ [41] = S5 at *
   generalize 40 :: O ++ [32] ++ [nmB n.name] ++ A = S4 at *
   generalize 40 :: O ++ [32] ++ [nmB n.name] = S3 at *
   generalize 40 :: O ++ [32] = S2 at *
   generalize 40 :: O = S1 at *
   generalize [nmB n.name] = b1 at *
   have c7' : ¬ ((n.op : Nat) : Int) = 7 := by omega
   rw [yAL,a35,xAa]
   simp (maxSteps := 30000000) (disch := first|exact D5|fail) only [WB,Nat.reduceAdd,Nat.reduceSub,xAs,Nd.c,hn,hnv,AV.cells,AV.isCell,↓reduceIte,c1',h66,xAA,xAm,xCx,q1,c2',q2,xCZ,hsl,q3,c7',xHL,lq,h79',Int.reduceLT,q4]
  by_cases c7 : n.op = 7
  ·have c7' : (((n.op : Nat) : Int) = 7) = True := eq_true (by omega)
   have c2' : ¬ ((n.op : Nat) : Int) = 2 := by omega
   have hcn : chn n.op = 1 := by rw [c7]; rfl
   have hx := hd.x c7
   have ha := hv.ca (by omega)
   obtain ⟨ra,rl⟩ := hrec n.a ha.1 ha.2
   have hk : xAD n = [n.a.toNat] := by unfold xAD; rw [hcn]; rfl
   rw [hk,List.map_cons,List.map_nil,xU5,if_neg c2,if_pos c7] at hte
   have h67 := xX5 (t := n.x) (by omega) hx.2
   generalize txt fs n.a.toNat = T at *
   have q2 := fun H => xJ2 (a := 40 :: O) (b := [32]) H (by simp; omega) (by simp) rfl
   have q3 := fun H => xJ2 (a := 40 :: O ++ [32]) (b := [spB n.x]) H (by simp; omega) (by simp) rfl
   have lq := lp' (40 :: O ++ [32] ++ [spB n.x]) (by simp; omega)
   have q4 := fun H => xJ2 (a := 40 :: O ++ [32] ++ [spB n.x] ++ A) (b := [32]) H (by simp; omega) (by simp) rfl
   have q5 := fun H => xJ2 (a := 40 :: O ++ [32] ++ [spB n.x] ++ A ++ [32]) (b := T) H (by simp; omega) (by omega) rfl
   have q6 := fun H => xJ2 (a := 40 :: O ++ [32] ++ [spB n.x] ++ A ++ [32] ++ T) (b := [41]) H (by simp; omega) (by simp) rfl
   have hfin : txt fs i = 40 :: O ++ [32] ++ [spB n.x] ++ A ++ [32] ++ T ++ [41] := by rw [hte]; simp
   rw [hfin]
   rw [hcn] at h79'
   simp only [Int.natCast_one] at h79'
   clear lp' hfin hte hrec
   generalize 40 :: O ++ [32] ++ [spB n.x] ++ A ++ [32] ++ T ++ [41] = S7 at *
   generalize 40 :: O ++ [32] ++ [spB n.x] ++ A ++ [32] ++ T = S6 at *
   generalize 40 :: O ++ [32] ++ [spB n.x] ++ A ++ [32] = S5 at *
   generalize 40 :: O ++ [32] ++ [spB n.x] ++ A = S4 at *
   generalize 40 :: O ++ [32] ++ [spB n.x] = S3 at *
   generalize 40 :: O ++ [32] = S2 at *
   generalize 40 :: O = S1 at *
   generalize [spB n.x] = b1 at *
   rw [yAL,a35,xAa]
   simp (maxSteps := 30000000) (disch := first|exact D5|fail) only [WB,Nat.reduceAdd,Nat.reduceSub,xAs,Nd.c,hn,hnv,AV.cells,AV.isCell,↓reduceIte,c1',h66,xAA,xAm,xCx,q1,c2',c7',q2,h67,q3,xHL,lq,h79',Int.reduceLT,q4,ra,q5,q6]
  have c7' : ¬ ((n.op : Nat) : Int) = 7 := by omega
  have c2' : ¬ ((n.op : Nat) : Int) = 2 := by omega
  rw [if_neg c2,if_neg c7,List.nil_append,List.nil_append] at hte
  have lq := lp' (40 :: O) (by simp; omega)
  rcases xAG n.op with hcn | hcn | hcn
  ·have hk : xAD n = [] := by unfold xAD; rw [hcn]; rfl
   rw [hk,List.map_nil,xYi] at hte
   have q4 := fun H => xJ2 (a := 40 :: O ++ A) (b := [41]) H (by simp; omega) (by simp) rfl
   have hfin : txt fs i = 40 :: O ++ A ++ [41] := by rw [hte]; simp
   rw [hfin]
   rw [hcn] at h79'
   simp only [Int.natCast_zero] at h79'
   clear lp' hfin hte hrec
   generalize 40 :: O ++ A ++ [41] = S5 at *
   generalize 40 :: O ++ A = S4 at *
   generalize 40 :: O = S1 at *
   rw [yAL,a35,xAa]
   simp (maxSteps := 30000000) (disch := first|exact D5|fail) only [WB,Nat.reduceAdd,Nat.reduceSub,xAs,Nd.c,hn,hnv,AV.cells,AV.isCell,↓reduceIte,c1',h66,xAA,xAm,xCx,q1,c2',c7',xHL,lq,h79',Int.reduceLT,q4]
  ·have ha := hv.ca (by omega)
   obtain ⟨ra,rl⟩ := hrec n.a ha.1 ha.2
   have hk : xAD n = [n.a.toNat] := by unfold xAD; rw [hcn]; rfl
   rw [hk,List.map_cons,List.map_nil,xU5] at hte
   generalize txt fs n.a.toNat = T at *
   have q4 := fun H => xJ2 (a := 40 :: O ++ A) (b := [32]) H (by simp; omega) (by simp) rfl
   have q5 := fun H => xJ2 (a := 40 :: O ++ A ++ [32]) (b := T) H (by simp; omega) (by omega) rfl
   have q6 := fun H => xJ2 (a := 40 :: O ++ A ++ [32] ++ T) (b := [41]) H (by simp; omega) (by simp) rfl
   have hfin : txt fs i = 40 :: O ++ A ++ [32] ++ T ++ [41] := by rw [hte]; simp
   rw [hfin]
   rw [hcn] at h79'
   simp only [Int.natCast_one] at h79'
   clear lp' hfin hte hrec
   generalize 40 :: O ++ A ++ [32] ++ T ++ [41] = S7 at *
   generalize 40 :: O ++ A ++ [32] ++ T = S6 at *
   generalize 40 :: O ++ A ++ [32] = S5 at *
   generalize 40 :: O ++ A = S4 at *
   generalize 40 :: O = S1 at *
   rw [yAL,a35,xAa]
   simp (maxSteps := 30000000) (disch := first|exact D5|fail) only [WB,Nat.reduceAdd,Nat.reduceSub,xAs,Nd.c,hn,hnv,AV.cells,AV.isCell,↓reduceIte,c1',h66,xAA,xAm,xCx,q1,c2',c7',xHL,lq,h79',Int.reduceLT,q4,ra,q5,q6]
  ·have ha := hv.ca (by omega)
   have hb := hv.cb hcn
   obtain ⟨ra,rl⟩ := hrec n.a ha.1 ha.2
   obtain ⟨rb,rlb⟩ := hrec n.b hb.1 hb.2
   have hk : xAD n = [n.a.toNat,n.b.toNat] := by unfold xAD; rw [hcn]; rfl
   rw [hk,List.map_cons,List.map_cons,List.map_nil,yCX] at hte
   generalize txt fs n.a.toNat = T at *
   generalize txt fs n.b.toNat = U at *
   have q4 := fun H => xJ2 (a := 40 :: O ++ A) (b := [32]) H (by simp; omega) (by simp) rfl
   have q5 := fun H => xJ2 (a := 40 :: O ++ A ++ [32]) (b := T) H (by simp; omega) (by omega) rfl
   have q6 := fun H => xJ2 (a := 40 :: O ++ A ++ [32] ++ T) (b := [32]) H (by simp; omega) (by simp) rfl
   have q7 := fun H => xJ2 (a := 40 :: O ++ A ++ [32] ++ T ++ [32]) (b := U) H (by simp; omega) (by omega) rfl
   have q8 := fun H => xJ2 (a := 40 :: O ++ A ++ [32] ++ T ++ [32] ++ U) (b := [41]) H (by simp; omega) (by simp) rfl
   have hfin : txt fs i = 40 :: O ++ A ++ [32] ++ T ++ [32] ++ U ++ [41] := by rw [hte]; simp
   rw [hfin]
   rw [hcn] at h79'
   have h79' : L.pcall 62 [.int .u8 (n.op : Nat)] = some (.int .i64 2) := h79'
   clear lp' hfin hte hrec
   generalize 40 :: O ++ A ++ [32] ++ T ++ [32] ++ U ++ [41] = S9 at *
   generalize 40 :: O ++ A ++ [32] ++ T ++ [32] ++ U = S8 at *
   generalize 40 :: O ++ A ++ [32] ++ T ++ [32] = S7 at *
   generalize 40 :: O ++ A ++ [32] ++ T = S6 at *
   generalize 40 :: O ++ A ++ [32] = S5 at *
   generalize 40 :: O ++ A = S4 at *
   generalize 40 :: O = S1 at *
   rw [yAL,a35,xAa]
   simp (maxSteps := 30000000) (disch := first|exact D5|fail) only [WB,Nat.reduceAdd,Nat.reduceSub,xAs,Nd.c,hn,hnv,AV.cells,AV.isCell,↓reduceIte,c1',h66,xAA,xAm,xCx,q1,c2',c7',xHL,lq,h79',Int.reduceLT,q4,ra,q5,q6,rb,q7,q8]
theorem xWE (hF : fs.length ≤ 70) (hz : ∀ n ∈ fs,n.z = n.args.isEmpty) : L.pcall 11 [.sl fz fs.length (nds fs)] = some (.tup [zS (fmt fs),.int .i64 (chk fs : Nat)]) := by
 have h20 := xKV fz fs (by omega)
 unfold fmt
 by_cases hc : chk fs = 0
 ·obtain ⟨h0,hl,hV⟩ := xIk hc
  rw [hc] at h20 ⊢
  have h20 : L.pcall 8 [.sl fz fs.length (nds fs)] = some (.int .i64 0) := h20
  have h35 := yBX (fz := fz) hl hV (yBU hc hz) (fs.length - 1) (by omega)
  rw [if_pos rfl]
  generalize txt fs (fs.length - 1) = T at *
  rw [yEZ,a11,xAa]
  simp (disch := omega) only [WB,Nat.reduceSub,h20,xAA,xAm,↓reduceIte,h35]
 ·rw [if_neg hc]
  have hc' : ¬ ((chk fs : Nat) : Int) = 0 := by omega
  generalize chk fs = c at *
  rw [yEZ,a11,xAa]
  simp (disch := omega) only [WB,Nat.reduceSub,h20,xAA,xAm,↓reduceIte,hc']
end
def shE (e : Ev) : Ev := { e with z := (xCf e.args).isEmpty,args := xCf e.args }
def shL (m : Nat) (l : List Ev) : List Ev := (l.take m).map shE
section
variable {l : List Ev} {z : Bool}
abbrev F6 (z : Bool) (l : List Ev) (v : AV) (i : Nat) : List AV := xTs (.sl z l.length (evs l)) (.int .i64 20) v (.int .i64 (i : Nat))
theorem yEk : ∀ k i,i + k = min l.length 20 → ∀ (G : Heap) (v : AV) (out : List Ev),out.length = i → Ge G v out → ∃ (G' : Heap) (v' : AV),
  L.loop xQ4 yBB ⟨F6 z l v i,G⟩ = some (.exit 0,⟨F6 z l v' (min l.length 20),G'⟩) ∧ Ge G' v' (out ++ ((l.drop i).take k).map shE) := by
 intro k
 induction k with
 | zero =>
  intro i hi G v out ho hg
  obtain rfl : i = min l.length 20 := by omega
  refine ⟨G,v,?_,by simpa using hg⟩
  by_cases c : l.length < 20
  ·have c1 : min l.length 20 = l.length := by omega
   rw [c1,xTt]
   simp (maxSteps := 30000000) (disch := first|exact D5|fail) only [xOa,WB,↓reduceIte,xOb]
  ·have c1 : min l.length 20 = 20 := by omega
   rw [c1]
   by_cases c2 : l.length = 20
   ·have c3 : ¬ ((20 : Int) < (l.length : Nat)) := by omega
    rw [xTt]
    simp (maxSteps := 30000000) (disch := first|exact D5|fail) only [xOa,WB,c3,↓reduceIte,xOb]
    rfl
   ·have c3 : ((20 : Int) < (l.length : Nat)) := by omega
    rw [xTt]
    simp (maxSteps := 30000000) (disch := first|exact D5|fail) only [xOa,WB,c3,↓reduceIte,xOb]
    rfl
 | succ k ih =>
  intro i hi G v out ho hg
  have hlt : i < l.length := by omega
  have hltI : ((i : Nat) : Int) < (l.length : Nat) := by omega
  have hlt20 : ((i : Nat) : Int) < 20 := by omega
  have em : ((l.drop i).take (k + 1)).map shE = shE (l.getD i ev0) :: ((l.drop (i + 1)).take k).map shE := by
   rw [List.drop_eq_getElem_cons hlt,List.getD_eq_getElem?_getD,List.getElem?_eq_getElem hlt]
   rfl
  rw [em]
  generalize hn : l.getD i ev0 = n at *
  have hnv : xA2 n.z n.args = .sl n.z n.args.length (xAB n.args) := rfl
  have h49 := xYc n.z (l := xCf n.args) (by simp [xCf]; omega)
  have hcl : (xCf n.args).length = min n.args.length 4 := by simp [xCf,Nat.min_comm]
  have hmin : min ((n.args.length : Nat) : Int) 4 = ((xCf n.args).length : Nat) := by rw [hcl]; omega
  have hbd : xBh n.args.length none (some (.int .i64 ((xCf n.args).length : Nat))) none = some (0,(xCf n.args).length) := by
   rw [xDN (Int.natCast_nonneg _) (by rw [hcl]; omega)]
   simp
  have htk : xAB (List.take (xCf n.args).length n.args) = xAB (xCf n.args) := by
   congr 1
   rw [hcl]
   unfold xCf
   by_cases c : n.args.length ≤ 4
   ·rw [Nat.min_eq_left c,List.take_of_length_le (Nat.le_refl _),List.take_of_length_le c]
   ·rw [Nat.min_eq_right (by omega)]
  have hC : evC (shE n) = [.int .i64 n.name,.sl (xCf n.args).isEmpty (xCf n.args).length (xAB (xCf n.args))] := rfl
  rcases hg with ⟨rfl,rfl⟩ | ⟨o,rfl,go,hne⟩
  ·obtain ⟨G',v',e1,g1⟩ := ih (i + 1) (by omega) (G ++ [.cells false false (evC (shE n)),.cells false false (evs [shE n])]) (.own false (G.length + 1) 0 1 2) [shE n] (by simp at ho ⊢; omega)
    (.inr ⟨G.length + 1,rfl,by rw [List.getElem?_append_right (by omega)]; simp,by simp⟩)
   refine ⟨G',v',?_,by simpa using g1⟩
   have hN : evs [shE n] = evC (shE n) := by simp [rows]
   rw [hN,hC] at e1
   generalize xCf n.args = l4 at *
   rw [xTt]
   simp (maxSteps := 30000000) (disch := first|exact D5|fail) only [xOa,WB,hltI,↓reduceIte,hlt20,xDR,evC,hn,hnv,AV.cells,AV.isCell,Nat.reduceAdd,xBq,xBG,hmin,hbd,W2,htk,h49,xAA,xAm,Nat.reduceMul,Nat.reduceBEq,xOb,e1]
  ·have lo := xA4 go
   obtain ⟨G',v',e1,g1⟩ := ih (i + 1) (by omega) (G.set o .dead ++ [.cells false false (evC (shE n)),.cells false false (evs (out ++ [shE n]))]) (.own false (G.length + 1) 0 (out.length + 1) 2) (out ++ [shE n]) (by simp; omega)
    (.inr ⟨G.length + 1,by simp,by rw [List.getElem?_append_right (by simp)]; simp,by simp⟩)
   refine ⟨G',v',?_,by simpa using g1⟩
   have hN : evs out ++ evC (shE n) = evs (out ++ [shE n]) := by rw [← xUF]; simp [rows]
   rw [hC] at e1 hN
   have hnl := xAg out
   have hnt := xGK out
   generalize evs (out ++ [shE n]) = L2 at *
   generalize evs out = L1 at *
   generalize xCf n.args = l4 at *
   have hi20 : i ≤ 20 := by omega
   rw [ho] at *
   rw [xTt]
   simp (maxSteps := 30000000) (disch := first|exact D5|fail) only [xOa,WB,hltI,↓reduceIte,hlt20,xDR,evC,hn,hnv,AV.cells,AV.isCell,Nat.reduceAdd,xBq,xBG,hmin,hbd,W2,htk,h49,xAA,xAm,Nat.reduceMul,xAS,go,Nat.reduceBEq,xDp,hnt,hN,xOb,e1]
theorem yBY (z : Bool) (l : List Ev) : L.pcall 6 [.sl z l.length (evs l),.int .i64 20] = some (.sl (shL 20 l).isEmpty (shL 20 l).length (evs (shL 20 l))) := by
 obtain ⟨G',v',e1,g1⟩ := yEk (z := z) (l := l) (min l.length 20) 0 (by omega) [] (.sl true 0 []) [] rfl (.inl ⟨rfl,rfl⟩)
 have hfe : ((l.drop 0).take (min l.length 20)).map shE = shL 20 l := by
  unfold shL
  rw [List.drop_zero]
  congr 1
  by_cases c : l.length ≤ 20
  ·rw [Nat.min_eq_left c,List.take_of_length_le (Nat.le_refl _),List.take_of_length_le c]
  ·rw [Nat.min_eq_right (by omega)]
 rw [List.nil_append,hfe] at g1
 have e1' : L.loop xQ4 yBB ⟨xTs (.sl z l.length (evs l)) (.int .i64 20) (.sl true 0 []) (.int .i64 0),[]⟩ = _ := e1
 generalize shL 20 l = V at *
 rcases g1 with ⟨rfl,rfl⟩ | ⟨o,rfl,go,hne⟩
 ·show _ = some (AV.sl true 0 [])
  rw [a6p,a6,xAa]
  simp (disch := omega) only [WB,Nat.reduceAdd,Nat.reduceSub,xOb,e1',↓reduceIte]
 ·have hnl := xAg V
  have hnt := xGK V
  have hfr := fun d H => xOv d H V
  have hem : V.isEmpty = false := by
   cases V with
   | nil => exact absurd rfl hne
   | cons _ _ => rfl
  rw [hem]
  generalize evs V = L1 at *
  rw [a6p,a6,xAa]
  simp (disch := omega) only [WB,Nat.reduceAdd,Nat.reduceSub,xOb,e1',↓reduceIte,xAR,go,hnt,hfr]
abbrev F14 (z : Bool) (l : List Ev) (v : AV) (i : Nat) : List AV := xHD (.sl z l.length (evs l)) v (.int .i64 (i : Nat))
theorem yBZ (hl : l.length ≤ 1000) : ∀ k i,i + k = l.length → ∀ (G : Heap) (v : AV) (out : List Ev),out.length = i → Ge G v out → ∃ (G' : Heap) (v' : AV),
  L.loop xHC xQ8 ⟨F14 z l v i,G⟩ = some (.exit 0,⟨F14 z l v' l.length,G'⟩) ∧ Ge G' v' (out ++ l.drop i) := by
 intro k
 induction k with
 | zero =>
  intro i hi G v out ho hg
  obtain rfl : i = l.length := by omega
  refine ⟨G,v,?_,by simpa using hg⟩
  rw [xTE]
  simp (maxSteps := 30000000) (disch := first|exact D5|fail) only [xMK,WB,↓reduceIte,xML]
 | succ k ih =>
  intro i hi G v out ho hg
  have hlt : i < l.length := by omega
  have hltI : ((i : Nat) : Int) < (l.length : Nat) := by omega
  have em : l.drop i = l.getD i ev0 :: l.drop (i + 1) := xB9 hlt
  rw [em]
  generalize hn : l.getD i ev0 = n at *
  have hnv : xA2 n.z n.args = .sl n.z n.args.length (xAB n.args) := rfl
  rcases hg with ⟨rfl,rfl⟩ | ⟨o,rfl,go,hne⟩
  ·obtain ⟨G',v',e1,g1⟩ := ih (i + 1) (by omega) (G ++ [.cells false false (evs [n])]) (.own false G.length 0 1 2) [n] (by simp at ho ⊢; omega)
    (.inr ⟨G.length,rfl,by rw [List.getElem?_append_right (by omega)]; simp,by simp⟩)
   refine ⟨G',v',?_,by simpa using g1⟩
   have hN : evs [n] = [.int .i64 n.name,.sl n.z n.args.length (xAB n.args)] := by simp [rows,evC,hnv]
   rw [hN] at e1
   rw [xTE]
   simp (maxSteps := 30000000) (disch := first|exact D5|fail) only [xMK,WB,hltI,↓reduceIte,xDR,evC,hn,hnv,AV.cells,Nat.reduceAdd,Nat.reduceMul,AV.isCell,Nat.reduceBEq,xML,e1]
  ·have lo := xA4 go
   obtain ⟨G',v',e1,g1⟩ := ih (i + 1) (by omega) (G.set o .dead ++ [.cells false false (evs (out ++ [n]))]) (.own false G.length 0 (out.length + 1) 2) (out ++ [n]) (by simp; omega)
    (.inr ⟨G.length,by simp,by rw [List.getElem?_append_right (by simp)]; simp,by simp⟩)
   refine ⟨G',v',?_,by simpa using g1⟩
   have hN : evs out ++ [.int .i64 n.name,.sl n.z n.args.length (xAB n.args)] = evs (out ++ [n]) := by rw [← xUF]; simp [rows,evC,hnv]
   have hnl := xAg out
   have hnt := xGK out
   generalize evs (out ++ [n]) = L2 at *
   generalize evs out = L1 at *
   rw [ho] at *
   rw [xTE]
   simp (maxSteps := 30000000) (disch := first|exact D5|fail) only [xMK,WB,hltI,↓reduceIte,xDR,evC,hn,hnv,AV.cells,Nat.reduceAdd,Nat.reduceMul,AV.isCell,go,Nat.reduceBEq,hnt,hN,xML,e1]
theorem xZt (z : Bool) (l : List Ev) (hl : l.length ≤ 1000) : L.pcall 14 [.sl z l.length (evs l)] = some (.sl l.isEmpty l.length (evs l)) := by
 obtain ⟨G',v',e1,g1⟩ := yBZ (z := z) (l := l) hl l.length 0 (by omega) [] (.sl true 0 []) [] rfl (.inl ⟨rfl,rfl⟩)
 rw [List.nil_append,List.drop_zero] at g1
 have e1' : L.loop xHC xQ8 ⟨xHD (.sl z l.length (evs l)) (.sl true 0 []) (.int .i64 0),[]⟩ = _ := e1
 rcases g1 with ⟨h,rfl⟩ | ⟨o,rfl,go,hne⟩
 ·subst h
  have e2 : L.loop xHC xQ8 ⟨xHD (.sl z 0 (evs [])) (.sl true 0 []) (.int .i64 0),[]⟩ = some (.exit 0,⟨xHD (.sl z 0 (evs [])) (.sl true 0 []) (.int .i64 0),G'⟩) := e1
  show L.pcall 14 [.sl z 0 (evs [])] = some (AV.sl true 0 [])
  rw [yE0,a14,xAa]
  simp (disch := omega) only [WB,Nat.reduceSub,xML,e2,↓reduceIte]
 ·have hnl := xAg l
  have hnt := xGK l
  have hfr := fun d H => xOv d H l
  have hem : l.isEmpty = false := by
   cases l with
   | nil => exact absurd rfl hne
   | cons _ _ => rfl
  rw [hem]
  generalize evs l = L1 at *
  rw [yE0,a14,xAa]
  simp (disch := omega) only [WB,Nat.reduceSub,xML,e1',↓reduceIte,xAR,go,hnt,hfr]
end
theorem xZu {o N : Nat} : ∀ k i,i + k = N → ∀ (G : Heap) (b : List Bool),b.length = N → N < 1099511627776 → G[o]? = some (.cells false false (bls b)) → ∃ b' : List Bool,b'.length = N ∧
  L.loop xJo xTG ⟨xJp (.own false o 0 N 1) (.int .i64 (i : Nat)),G⟩ = some (.exit 0,⟨xJp (.own false o 0 N 1) (.int .i64 (N : Nat)),G.set o (.cells false false (bls b'))⟩) := by
 intro k
 induction k with
 | zero =>
  intro i hi G b hb hN go
  obtain rfl : i = N := by omega
  refine ⟨b,hb,?_⟩
  have hset : G.set o (.cells false false (bls b)) = G := by
   refine List.ext_getElem? fun j => ?_
   by_cases e : j = o
   ·subst e; rw [List.getElem?_set_self (xA4 go),go]
   ·rw [List.getElem?_set_ne (fun h => e h.symm)]
  rw [hset,xTH]
  simp (maxSteps := 30000000) (disch := first|exact D5|fail) only [xMN,WB,↓reduceIte,xPL]
 | succ k ih =>
  intro i hi G b hb hN go
  have hlt : i < N := by omega
  have hltI : ((i : Nat) : Int) < (N : Nat) := by omega
  have lo := xA4 go
  have hbl := xAe b
  have hat := xDe (l := b) (k := i) (by omega)
  have hst : List.take i (bls b) ++ (AV.bool (!b.getD i false) :: List.drop (i + 1) (bls b)) = bls (List.take i b ++ ((!b.getD i false) :: List.drop (i + 1) b)) := by
   simp [bls,List.map_take,List.map_drop]
  obtain ⟨b',h1,h2⟩ := ih (i + 1) (by omega) (G.set o (.cells false false (bls (List.take i b ++ ((!b.getD i false) :: List.drop (i + 1) b))))) (List.take i b ++ ((!b.getD i false) :: List.drop (i + 1) b)) (by simp; omega) hN (by rw [List.getElem?_set_self lo])
  refine ⟨b',h1,?_⟩
  rw [List.set_set] at h2
  rw [← hst] at h2
  rw [hb] at hbl
  generalize b.getD i false = x at *
  generalize bls b = L1 at *
  rw [xTH]
  simp (maxSteps := 30000000) (disch := first|exact D5|fail) only [xMN,WB,hltI,↓reduceIte,go,hat,AV.cells,xPL,h2]
def OwV (G : Heap) (v : AV) (b : List Bool) : Prop := (b = [] ∧ v = .sl true 0 []) ∨ ∃ o,v = .own false o 0 b.length 1 ∧ G[o]? = some (.cells false false (bls b))
theorem xP4 (n : Nat) : ∀ b : List Bool,(bls b).map (xFE n) = bls b
 | [] => rfl
 | x :: b => by
  show xFE n (.bool x) :: (bls b).map (xFE n) = _
  rw [xP4 n b]; rfl
theorem xUl : ∀ b : List Bool,(bls b).all xLc = true
 | [] => rfl
 | x :: b => by
  show (xLc (.bool x) && (bls b).all xLc) = true
  rw [xUl b]; rfl
theorem yB0 {f : Nat} {args : List AV} {v : AV} {e : Int} {B : Heap} {b : List Bool} (h : L.icall (.func f []) args [] = some (.tup [v,.int .i64 e],B)) (hv : OwV B v b) (G : Heap) : ∃ v' G',yAJ G [] (xCG L f args) = some (.tup [v',.int .i64 e],G') ∧ OwV G' v' b := by
 rcases hv with ⟨rfl,rfl⟩ | ⟨o,rfl,go⟩
 ·rw [xMC h rfl,xMB]
  exact ⟨.sl true 0 [],G ++ B.map (xDL G.length),rfl,.inl ⟨rfl,rfl⟩⟩
 ·rw [xMC h rfl,xMB]
  refine ⟨.own false (G.length + o) 0 b.length 1,G ++ B.map (xDL G.length),rfl,.inr ⟨G.length + o,rfl,?_⟩⟩
  rw [List.getElem?_append_right (by omega),show G.length + o - G.length = o by omega,List.getElem?_map,go]
  show some (xDL G.length (.cells false false (bls b))) = _
  unfold xDL
  simp only
  rw [if_pos (xUl b),xP4]
section
variable {F : List Nd} {E : List Ev} {fz zt : Bool}
theorem xUm (hlen : F.length < 1000) (hc : chk F ≠ 0) : ∃ B,L.icall (.func 12 []) [.sl fz F.length (nds F),.sl zt E.length (evs E)] [] = some (.tup [.sl true 0 [],.int .i64 (chk F : Nat)],B) := by
 have h19 := xUD fz F hlen hc []
 have hc' : ¬ ((chk F : Nat) : Int) = 0 := by omega
 generalize chk F = c at *
 refine ⟨[],?_⟩
 rw [yDZ,a12,xAu]
 simp (disch := omega) only [WB,Nat.reduceAdd,Nat.reduceSub,h19,hc',↓reduceIte]
theorem yEl (hc : chk F = 0) (hw : ∀ j,j < F.length → WN (F.getD j nd0)) (hl : E.length ≤ 64) : ∃ v B,L.icall (.func 12 []) [.sl false F.length (nds F),.sl zt E.length (evs E)] [] = some (.tup [v,.int .i64 (if E.all xEN = true then 0 else 1)],B) ∧ OwV B v (if E.all xEN = true then vL F E (zr (nT F)) else []) := by
 obtain ⟨h0,hlen,hV⟩ := xIk hc
 obtain ⟨G1,m,sb,h19,hm,-,-,-⟩ := xWR hc hw []
 have hl' : ¬ (64 : Int) < (E.length : Nat) := by omega
 obtain ⟨G',i',v',e1,g1,-⟩ := xYb (B := 0) (z := zt) (l := E) h0 hlen hV hl E.length 0 (by omega) G1 _ 0 (.sl true 0 []) [] rfl hm (by omega) (by omega) (.inl ⟨rfl,rfl⟩)
 rw [List.drop_zero] at e1 g1
 have e1' : L.loop xGq xOf ⟨xJg (.sl true 0 []) (.int .i64 0) (.ptr m 0) (.sl true 0 []) (.sl zt E.length (evs E)) (.int .i64 (E.length : Nat)) (.int .i64 0),G1⟩ = _ := e1
 cases ha : E.all xEN with
 | false =>
  rw [ha] at e1'
  simp only [Bool.false_eq_true,if_false] at e1' ⊢
  refine ⟨.sl true 0 [],G',?_,.inl ⟨rfl,rfl⟩⟩
  rw [yDZ,a12,xAu]
  simp (disch := omega) only [WB,Nat.reduceAdd,Nat.reduceSub,h19,↓reduceIte,hl',xEn,e1']
 | true =>
  have g2 := g1 ha
  rw [ha] at e1'
  simp only [if_true,List.nil_append] at e1' g2 ⊢
  refine ⟨v',G',?_,?_⟩
  ·rw [yDZ,a12,xAu]
   rcases g2 with ⟨-,rfl⟩ | ⟨o,rfl,-,-,-,-,-⟩
   ·simp (disch := omega) only [WB,Nat.reduceAdd,Nat.reduceSub,h19,↓reduceIte,hl',xEn,e1']
   ·simp (disch := omega) only [WB,Nat.reduceAdd,Nat.reduceSub,h19,↓reduceIte,hl',xEn,e1']
  ·rcases g2 with ⟨h1,h2⟩ | ⟨o,h1,h2,-,-,-,-⟩
   ·exact .inl ⟨h1,h2⟩
   ·exact .inr ⟨o,h1,h2⟩
theorem xQ9 (hlen : F.length < 1000) (hc : chk F ≠ 0) : L.pcall 13 [.sl fz F.length (nds F),.sl zt E.length (evs E)] = some (.tup [.sl true 0 [],.int .i64 (chk F : Nat)]) := by
 have h20 := xKV fz F hlen
 have hc' : ¬ ((chk F : Nat) : Int) = 0 := by omega
 generalize chk F = c at *
 rw [yDe,a13,xAa]
 simp (disch := omega) only [WB,Nat.reduceAdd,Nat.reduceSub,h20,xAA,xAm,↓reduceIte,hc']
theorem xUn (hF : F.length ≤ 70) (hw : ∀ j,j < F.length → WN (F.getD j nd0)) (hl : E.length ≤ 64) : ∃ (b : List Bool) (e : Int),b.length ≤ 64 ∧
  (∀ (fz zt : Bool),(chk F = 0 → fz = false) → ∀ G : Heap,∃ v' G',yAJ G [] (xCG L 12 [.sl fz F.length (nds F),.sl zt E.length (evs E)]) = some (.tup [v',.int .i64 e],G') ∧ OwV G' v' b) ∧
  ∀ fz zt : Bool,L.pcall 13 [.sl fz F.length (nds F),.sl zt E.length (evs E)] = some (.tup [.sl b.isEmpty b.length (bls b),.int .i64 e]) := by
 by_cases hc : chk F = 0
 ·obtain ⟨h0,hlen,hV⟩ := xIk hc
  refine ⟨if E.all xEN = true then vL F E (zr (nT F)) else [],if E.all xEN = true then 0 else 1,?_,fun fz zt hz G => ?_,fun fz zt => ?_⟩
  ·split
   ·rw [xQd]; exact hl
   ·simp
  ·obtain rfl := hz hc
   obtain ⟨v,B,h1,h2⟩ := yEl (zt := zt) hc hw hl
   exact yB0 h1 h2 G
  ·rw [yB5 hc hl]
   have hs : vL F E (zr (nT F)) = vS F E := yCW hV h0 E
   split
   ·rw [hs,xJ3]
    have : (vS F E).isEmpty = E.isEmpty := by
     have := xJ3 F E
     cases hv : vS F E with
     | nil => cases E with
      | nil => rfl
      | cons _ _ => rw [hv] at this; simp at this
     | cons _ _ => cases E with
      | nil => rw [hv] at this; simp at this
      | cons _ _ => rfl
    rw [this]
   ·rfl
 ·refine ⟨[],(chk F : Nat),by simp,fun fz zt _ G => ?_,fun fz zt => xQ9 (by omega) hc⟩
  obtain ⟨B,h1⟩ := xUm (fz := fz) (zt := zt) (E := E) (F := F) (by omega) hc
  exact yB0 h1 (.inl ⟨rfl,rfl⟩) G
end
theorem yB1 {o N : Nat} {G : Heap} {b : List Bool} (hb : b.length = N) (hN : N < 1099511627776) (go : G[o]? = some (.cells false false (bls b))) : ∃ G',L.icall (.func 17 []) [.own false o 0 N 1] G = some (.tup [],G') := by
 obtain ⟨b',-,h⟩ := xZu N 0 (by omega) G b hb hN go
 have h' : L.loop xJo xTG ⟨xJp (.own false o 0 N 1) (.int .i64 0),G⟩ = _ := h
 refine ⟨G.set o (.cells false false (bls b')),?_⟩
 rw [yE2,a17,xAu]
 simp (disch := omega) only [WB,Nat.reduceSub,xPL,h',↓reduceIte]
theorem xZv {G : Heap} : L.icall (.func 17 []) [.sl true 0 []] G = some (.tup [],G) := by
 rw [yE2,a17,xAu]
 simp (disch := omega) only [WB,Nat.reduceSub,xPL,xTH,xMN,↓reduceIte]
theorem xWF (fs : List Nd) : (xGx fs).length ≤ 70 := by
 unfold xGx
 rw [List.length_map,List.length_take]; omega
theorem xP5 {fs : List Nd} {m : Nd} (h : m ∈ xGx fs) : ∃ n,m = xJ6 n := by
 unfold xGx at h
 obtain ⟨n,-,hn⟩ := List.mem_map.1 h
 exact ⟨n,hn.symm⟩
theorem xUo (fs : List Nd) : ∀ j,j < (xGx fs).length → ∃ n,(xGx fs).getD j nd0 = xJ6 n := by
 intro j hj
 refine xP5 (fs := fs) ?_
 rw [List.getD_eq_getElem?_getD,List.getElem?_eq_getElem hj]
 exact List.getElem_mem hj
theorem xZw (fs : List Nd) : ∀ j,j < (xGx fs).length → WN ((xGx fs).getD j nd0) := by
 intro j hj
 obtain ⟨n,hn⟩ := xUo fs j hj
 rw [hn]; rfl
theorem xZx (fs : List Nd) : ∀ j,j < (xGx fs).length → ((xGx fs).getD j nd0).args.length ≤ 1000 := by
 intro j hj
 obtain ⟨n,hn⟩ := xUo fs j hj
 rw [hn]
 show (xCf n.args).length ≤ 1000
 unfold xCf
 rw [List.length_take]; omega
theorem at2 {L : List AV} {k : Nat} {a b : AV} (h : List.take 2 (List.drop k L) = [a,b]) : List.take 1 (List.drop k L) = [a] ∧ List.take 1 (List.drop (k + 1) L) = [b] := by
 have e : List.drop (k + 1) L = List.drop 1 (List.drop k L) := by rw [List.drop_drop]
 rw [e]
 generalize List.drop k L = M at *
 match M,h with
 | x :: y :: M,h =>
  simp only [List.take_succ_cons,List.take_zero,List.cons.injEq,and_true] at h
  obtain ⟨rfl,rfl⟩ := h
  exact ⟨rfl,rfl⟩
theorem yFT (T : List UInt8) : xWW true (zS T) (zS T) = some (.bool false) := by
 show some (AV.bool ((_ == _) != true)) = _
 simp
section
variable {F fs : List Nd} {X l : List Ev} {z zl : Bool}
set_option maxRecDepth 100000 in
theorem yB2 {s1 : AV} (hF : F.length ≤ 70) (hfe : xGx fs = F) (hX : X.length ≤ 20) : ∀ k i,i + k = 2 → ∀ G : Heap,∃ G' : Heap,
  L.loop xQZ yBx ⟨xQ0 (.sl z fs.length (nds fs)) s1 (.bool false) (.sl F.isEmpty F.length (nds F)) (.sl X.isEmpty X.length (evs X)) (.int .i64 (i : Nat)),G⟩ = some (.exit 0,⟨xQ0 (.sl z fs.length (nds fs)) s1 (.bool false) (.sl F.isEmpty F.length (nds F)) (.sl X.isEmpty X.length (evs X)) (.int .i64 2),G'⟩) := by
 have h10 := xOE F.isEmpty (fs := F) (by omega)
 have h9 := xKU F.isEmpty F (by omega)
 have h11 := xWE (fz := F.isEmpty) (fs := F) hF (fun m hm => by
  rw [← hfe] at hm
  obtain ⟨n,rfl⟩ := xP5 hm
  rfl)
 have h14 := xZt X.isEmpty X (by omega)
 have h5 := yCw z fs
 rw [hfe] at h5
 have h16 := xZG (z1 := F.isEmpty) (z2 := F.isEmpty) (fs := F) (by omega) (hfe ▸ xZx fs)
 obtain ⟨b,e,hb,hw,h13⟩ := xUn (F := F) (E := X) hF (hfe ▸ xZw fs) (by omega)
 have h13 := h13 F.isEmpty X.isEmpty
 have hz : chk F = 0 → F.isEmpty = false := fun h => by
  obtain ⟨h0,-,-⟩ := xIk h
  cases F with
  | nil => simp at h0
  | cons _ _ => rfl
 have h15 := fun z1 => yFd (z1 := z1) (z2 := b.isEmpty) (a := b) (b := b) (by omega)
 rw [decide_eq_true rfl] at h15
 have hsb := yFT (fmt F)
 generalize fmt F = T at *
 generalize F.isEmpty = ze at *
 generalize X.isEmpty = zx at *
 generalize chk F = c at *
 have hbl := xAe b
 have hbt : List.take b.length (bls b) = bls b := List.take_of_length_le (by omega)
 have hfr := fun d H => xH4 d H b
 intro k
 induction k with
 | zero =>
  intro i hi G
  obtain rfl : i = 2 := by omega
  refine ⟨G,?_⟩
  rw [xZi]
  simp (disch := omega) only [xTp,WB,↓reduceIte,xWl]
 | succ k ih =>
  intro i hi G
  have hi2 : ((i : Nat) : Int) < 2 := by omega
  obtain ⟨v',G2,hw2,hv⟩ := hw ze zx hz G
  rcases hv with ⟨rfl,rfl⟩ | ⟨o,rfl,go⟩
  ·obtain ⟨G',e1⟩ := ih (i + 1) (by omega) G2
   refine ⟨G',?_⟩
   have h17 := xZv (G := G2)
   have h15 : L.pcall 15 [.sl true 0 [],.sl true 0 []] = some (.bool true) := h15 true
   have h13 : L.pcall 13 [.sl ze F.length (nds F),.sl zx X.length (evs X)] = some (.tup [.sl true 0 [],.int .i64 e]) := h13
   rw [xZi]
   simp (disch := omega) only [xTp,WB,hi2,↓reduceIte,h10,xAA,xAm,h9,h11,xMA,xGo,hw2,h14,h13,xAH,hsb,h15,h5,h16,h17,xWl,e1]
  ·obtain ⟨G3,h17⟩ := yB1 (G := G2) rfl (by omega) go
   obtain ⟨G',e1⟩ := ih (i + 1) (by omega) G3
   refine ⟨G',?_⟩
   have h15 := h15 false
   generalize bls b = L1 at *
   rw [xZi]
   simp (disch := omega) only [xTp,WB,hi2,↓reduceIte,h10,xAA,xAm,h9,h11,xMA,xGo,hw2,h14,h13,xAH,hsb,xAR,go,hbt,hfr,h15,h5,h16,h17,xWl,e1]
set_option maxRecDepth 100000 in
theorem yB3 {zx : Bool} {s0 s5 : AV} (hX : shL 20 l = X) (hl : l.length ≤ 9223372036854775807) : ∀ k i,i + k = X.length → ∀ G : Heap, 
  L.loop xQ1 yBy ⟨xQ2 (.sl zl l.length (evs l)) (.bool false) (.sl zx X.length (evs X)) (.int .i64 (i : Nat)),G⟩ = some (.exit 2,⟨xQ2 (.sl zl l.length (evs l)) (.bool false) (.sl zx X.length (evs X)) (.int .i64 (X.length : Nat)),G⟩) := by
 have hXl : X.length = min l.length 20 := by rw [← hX]; unfold shL; rw [List.length_map,List.length_take]; omega
 intro k
 induction k with
 | zero =>
  intro i hi G
  obtain rfl : i = X.length := by omega
  rw [yBz]
  simp (maxSteps := 30000000) (disch := first|exact D5|fail) only [xWm,WB,↓reduceIte,xZj]
 | succ k ih =>
  intro i hi G
  have hlt : i < X.length := by omega
  have hltI : ((i : Nat) : Int) < (X.length : Nat) := by omega
  have hll : i < l.length := by omega
  have hllI : ((i : Nat) : Int) < (l.length : Nat) := by omega
  have e1 := ih (i + 1) (by omega) G
  have hg : X.getD i ev0 = shE (l.getD i ev0) := by
   rw [← hX]
   unfold shL
   rw [List.getD_eq_getElem?_getD,List.getElem?_map,List.getElem?_take_of_lt (by omega),List.getD_eq_getElem?_getD,List.getElem?_eq_getElem hll]
   rfl
  have ax := xDR hlt
  have al := xDR hll
  rw [hg] at ax
  generalize hn : l.getD i ev0 = n at *
  have hnv : xA2 n.z n.args = .sl n.z n.args.length (xAB n.args) := rfl
  have hC : evC (shE n) = [.int .i64 n.name,.sl (xCf n.args).isEmpty (xCf n.args).length (xAB (xCf n.args))] := rfl
  have hD : evC n = [.int .i64 n.name,.sl n.z n.args.length (xAB n.args)] := rfl
  rw [hC] at ax
  rw [hD] at al
  obtain ⟨x1,x2⟩ := at2 ax
  obtain ⟨y1,y2⟩ := at2 al
  have hcl : (xCf n.args).length = min n.args.length 4 := by simp [xCf,Nat.min_comm]
  have hmin : min ((n.args.length : Nat) : Int) 4 = ((xCf n.args).length : Nat) := by rw [hcl]; omega
  have hbd : xBh n.args.length none (some (.int .i64 ((xCf n.args).length : Nat))) none = some (0,(xCf n.args).length) := by
   rw [xDN (Int.natCast_nonneg _) (by rw [hcl]; omega)]
   simp
  have htk : xAB (List.take (xCf n.args).length n.args) = xAB (xCf n.args) := by
   congr 1
   rw [hcl]
   unfold xCf
   by_cases c : n.args.length ≤ 4
   ·rw [Nat.min_eq_left c,List.take_of_length_le (Nat.le_refl _),List.take_of_length_le c]
   ·rw [Nat.min_eq_right (by omega)]
  have h18 := fun z2 => yB8 (z1 := (xCf n.args).isEmpty) (z2 := z2) (l := xCf n.args) (by omega)
  have hel := xAg X
  have hel2 := xAg l
  clear ih ax al
  generalize evs X = EX at *
  generalize evs l = EL at *
  generalize xCf n.args = l4 at *
  rw [yBz]
  simp (maxSteps := 30000000) (disch := first|exact D5|fail) only [xWm,WB,hltI,↓reduceIte,x1,y1,x2,y2,hmin,hbd,W2,htk,xAn,h18,xAA,xAm,xZj,e1]
set_option maxRecDepth 100000 in
theorem xZy (z : Bool) (fs : List Nd) (zl : Bool) (l : List Ev) (hl : l.length ≤ 9223372036854775807) : L.pcall 3 [.sl z fs.length (nds fs),.sl zl l.length (evs l)] = some (.bool true) := by
 have hF := xWF fs
 have hX : (shL 20 l).length ≤ 20 := by unfold shL; rw [List.length_map,List.length_take]; omega
 have h5 := yCw z fs
 have h6 := yBY zl l
 have hk := xZN
 obtain ⟨G',e1⟩ := yB2 (z := z) (fs := fs) (F := xGx fs) (X := shL 20 l) (s1 := .sl zl l.length (evs l)) hF rfl hX 2 0 (by omega) []
 have e2 := yB3 (X := shL 20 l) (zl := zl) (zx := (shL 20 l).isEmpty) (s0 := .any) (s5 := .any) rfl hl (shL 20 l).length 0 (by omega) G'
 have h7 := xH3 (xGx fs).isEmpty (xGx fs) (by omega)
 have h9 := xKU (xGx fs).isEmpty (xGx fs) (by omega)
 have h8 := xKV (xGx fs).isEmpty (xGx fs) (by omega)
 generalize (xGx fs).isEmpty = ze at *
 generalize (shL 20 l).isEmpty = zx at *
 generalize xGx fs = F at *
 generalize shL 20 l = X at *
 generalize chk F = c at *
 have e1' : L.loop xQZ yBx ⟨xQ0 (.sl z fs.length (nds fs)) (.sl zl l.length (evs l)) (.bool false) (.sl ze F.length (nds F)) (.sl zx X.length (evs X)) (.int .i64 0),[]⟩ = _ := e1
 have e2' : L.loop xQ1 yBy ⟨xQ2 (.sl zl l.length (evs l)) (.bool false) (.sl zx X.length (evs X)) (.int .i64 0),G'⟩ = _ := e2
 rw [a3p,a3,xAa]
 simp (disch := omega) only [WB,Nat.reduceAdd,Nat.reduceSub,h5,xAA,xAm,↓reduceIte,h6,h7,h9,h8,xWl,e1',xZj,e2',hk]
end
theorem law3 (avs : List AV) (h : xNu [yCk,xX8] avs) : L.pcall 3 avs = some (.bool true) := by
 obtain ⟨v1,avs,rfl,f1,h⟩ := xJ5 h
 obtain ⟨v2,avs,rfl,f2,h⟩ := xJ5 h
 obtain rfl := xUA h
 obtain ⟨z,fs,rfl⟩ := xZP (xP9 f1)
 obtain ⟨zl,l,rfl,hl⟩ := xZQ (xP9 f2)
 exact xZy z fs zl l hl
end Go.Abs.Events
