/- The reference's Reverse. -/
import Derived.Test.YtbfnjdhafgnlnaaDoorAbsBun
import Derived.Test.YtbfnjdhafgnlnaaDoorAMG
namespace Go.Abs.NfaD
open Go Go.Abs
set_option linter.unusedSimpArgs false
set_option linter.unusedVariables false
theorem xSE (a b : List Ed) : edges (a ++ b) = edges a ++ edges b := (xVh xCX a b).symm
theorem xX6 {l : List Ed} {i : Nat} (h : i < l.length) (e : Ed) : List.take (i * 4) (edges l) ++ (.int .i64 e.a :: .int .i64 e.b :: .int .u8 (e.p : Nat) :: .int .u8 (e.n : Nat) :: List.drop (i * 4 + 4) (edges l)) = edges (l.set i e) := by
 have h1 : List.take (i * 4) (edges l) = edges (l.take i) := by
  have e1 : edges l = edges (l.take i) ++ edges (l.drop i) := by rw [← xSE,List.take_append_drop]
  rw [e1,List.take_append_of_le_length (by rw [xAa,List.length_take]; omega),List.take_of_length_le (by rw [xAa,List.length_take]; omega)]
 have h2 : List.drop (i * 4 + 4) (edges l) = edges (l.drop (i + 1)) := by
  have := xKw (enc := xCX) (k := 4) (fun _ => rfl) (i + 1) l
  rw [show (i + 1) * 4 = i * 4 + 4 by omega] at this
  exact this
 rw [h1,h2,List.set_eq_take_append_cons_drop,if_pos h,xSE]
 rfl
set_option maxHeartbeats 2000000 in
theorem xSF {N p k : Nat} {z : Bool} {s2 : AV} {a b c d : AV} (hpk : p ≠ k) (hN : N ≤ 512) : ∀ m i G L',i + m = N → L'.length = N → G[p]? = some (.cells false false [a,b,c,d,.own z k 0 N 4]) → G[k]? = some (.cells false z (edges L')) →
  ∃ G',L.loop xOo xW4 ⟨xOp s2 (.ptr p 0) (.int .i64 (i : Nat)),G⟩ = some (.exit 0,⟨xOp s2 (.ptr p 0) (.int .i64 (N : Nat)),G'⟩) ∧ G'[k]? = some (.cells false z (edges (L'.take i ++ (L'.drop i).map xBl))) ∧ ∀ j,j < G.length → j ≠ k → G'[j]? = G[j]?
 | 0,i,G,L',h,hL,hp,hk => by
  obtain rfl : i = N := by omega
  refine ⟨G,?_,by rw [List.drop_of_length_le (by omega),List.map_nil,List.append_nil,List.take_of_length_le (by omega)]; exact hk,fun _ _ _ => rfl⟩
  rw [yAo]
  simp (maxSteps := 30000000) (disch := first | assumption | omega | (simp only [WL,AV.isCell,xAa] <;> omega) | rfl | decide) only [↓reduceIte,WB,xAR,xAc,xAQ,xAD,xAC,AV.cells,AV.isCell,xAb,xAj,xAk,xAs,xAt,xAu,xAv,xAw,xAx,xAL,xAy,xAz,xAl,xAA,xAm,xAn,xAB,xAo,xAp,xAf,Nat.reduceDiv,Nat.reduceMod,WP,xAI,xAF,xAX,xAW,xAV,xAG,xAH,xAE,W2,xAd,xAe,xAi,Nat.reduceAdd,Nat.reduceSub,Nat.reduceLeDiff,Nat.reduceMul,Int.reduceAdd,Int.reduceSub,Int.reduceMul,Int.reduceLT,Int.reduceLE,Int.reduceEq,Int.reduceToNat,Int.reduceNeg,Nat.reduceEqDiff,Nat.reduceBEq,Nat.reduceLT,xAa,xAg,xAq,xAr,xAM,xAY,xAZ,xBb,xBc,xUf,xW5,hp]
 | m + 1,i,G,L',h,hL,hp,hk => by
  have hlt : (i : Int) < (N : Nat) := by omega
  have hltN : i < N := by omega
  have lp := (List.getElem?_eq_some_iff.1 hp).1
  have lk := (List.getElem?_eq_some_iff.1 hk).1
  have hat := xAg (show i < L'.length by omega)
  have hst := xX6 (show i < L'.length by omega) (xBl (L'.getD i e0))
  have hel := xAa L'
  rw [hL] at hel
  have xCm : L'.take (i + 1) = L'.take (i + 1) := rfl
  obtain ⟨G',h1,h2,h3⟩ := xSF (z := z) (s2 := s2) hpk hN m (i + 1) ((G ++ [Blk.cells false false (xCX (L'.getD i e0))]).set k (Blk.cells false z (edges (L'.set i (xBl (L'.getD i e0)))))) (L'.set i (xBl (L'.getD i e0))) (by omega) (by simpa using hL)
   (by rw [List.getElem?_set_ne (fun h => hpk h.symm)]; exact xBh hp) (by rw [List.getElem?_set_self (by simp; omega)])
  refine ⟨G',?_,?_,fun j hj hjk => ?_⟩
  ·have g1 := fun x : Blk => xBh (X := [x]) hp
   have g2 := fun x : Blk => xBh (X := [x]) hk
   rw [← hst] at h1
   simp only [xCX,xBl] at h1
   generalize L'.getD i e0 = x at *
   generalize edges L' = LB at *
   rw [yAo]
   simp (maxSteps := 30000000) (disch := first | assumption | omega | (simp only [WL,AV.isCell,xAa] <;> omega) | rfl | decide) only [↓reduceIte,WB,xAR,xAc,xAQ,xAD,xAC,AV.cells,AV.isCell,xAb,xAj,xAk,xAs,xAt,xAu,xAv,xAw,xAx,xAL,xAy,xAz,xAl,xAA,xAm,xAn,xAB,xAo,xAp,xAf,Nat.reduceDiv,Nat.reduceMod,WP,xAI,xAF,xAX,xAW,xAV,xAG,xAH,xAE,W2,xAd,xAe,xAi,Nat.reduceAdd,Nat.reduceSub,Nat.reduceLeDiff,Nat.reduceMul,Int.reduceAdd,Int.reduceSub,Int.reduceMul,Int.reduceLT,Int.reduceLE,Int.reduceEq,Int.reduceToNat,Int.reduceNeg,Nat.reduceEqDiff,Nat.reduceBEq,Nat.reduceLT,xAa,xAg,xAq,xAr,xAM,xAY,xAZ,xBb,xBc,xUf,xW5,hp,hlt,hltN,g1,g2,hk,hel,hat,h1]
  ·rw [h2]
   congr 3
   have e1 : (L'.set i (xBl (L'.getD i e0))).take (i + 1) = L'.take i ++ [xBl (L'.getD i e0)] := by
    rw [List.take_succ_eq_append_getElem (by simp; omega),List.take_set_of_le (Nat.le_refl _)]
    simp
   have e2 : (L'.set i (xBl (L'.getD i e0))).drop (i + 1) = L'.drop (i + 1) := by rw [List.drop_set_of_lt (by omega)]
   rw [e1,e2,xCV (by omega : i < L'.length),List.map_cons,List.append_assoc]
   rfl
  ·rw [h3 j (by simp; omega) hjk,List.getElem?_set_ne (fun h => hjk h.symm),List.getElem?_append_left hj]
theorem xX7 {n : Aut} {e : Int} (he : e ≠ 0) (h0 : L.pcall 8 [n.av] = some (.int .i64 e)) : L.pcall 12 [n.av] = some (.tup [xJF,.int .i64 e]) := by
 rw [yDN,a12,xAK]
 simp (maxSteps := 30000000) (disch := first | assumption | omega | (simp only [WL,AV.isCell,xAa] <;> omega) | rfl | decide) only [↓reduceIte,WB,xAR,xAc,xAQ,xAD,xAC,AV.cells,AV.isCell,xAb,xAj,xAk,xAs,xAt,xAu,xAv,xAw,xAx,xAL,xAy,xAz,xAl,xAA,xAm,xAn,xAB,xAo,xAp,xAf,Nat.reduceDiv,Nat.reduceMod,WP,xAI,xAF,xAX,xAW,xAV,xAG,xAH,xAE,W2,xAd,xAe,xAi,Nat.reduceAdd,Nat.reduceSub,Nat.reduceLeDiff,Nat.reduceMul,Int.reduceAdd,Int.reduceSub,Int.reduceMul,Int.reduceLT,Int.reduceLE,Int.reduceEq,Int.reduceToNat,Int.reduceNeg,Nat.reduceEqDiff,Nat.reduceBEq,Nat.reduceLT,xAa,xAg,xAq,xAr,xAM,xAY,xAZ,xBb,xBc,h0,he]
set_option maxHeartbeats 4000000 in
theorem yDz (n : Aut) (hv : Valid n) (hf : Fits n) (h0 : L.pcall 8 [n.av] = some (.int .i64 0)) : ∃ z1 z2 z3,L.pcall 12 [n.av] = some (.tup [(yBJ n z1 z2 z3).av,.int .i64 0]) := by
 have hel := hv.el
 have h14 := xYe n hf (by omega)
 have hi1 := xBO n.st
 have hi2 := xBO n.fi
 generalize (n.st.length == 0) = z1 at *
 generalize (n.fi.length == 0) = z2 at *
 generalize (n.ed.length == 0) = z3 at *
 obtain ⟨G',k1,k2,k3⟩ := xSF (N := n.ed.length) (p := 5) (k := 4) (z := z3) (s2 := .ptr 1 0) (a := .int .i64 n.vars) (b := .int .i64 n.states) (c := .own z2 3 0 n.fi.length 1) (d := .own z1 2 0 n.st.length 1) (by decide) hel n.ed.length 0
  [.cells false false n.cells,.cells false false [.int .i64 0,.int .i64 0,.sl true 0 [],.sl true 0 [],.sl true 0 []],.cells false z1 (xBd n.st),.cells false z2 (xBd n.fi),.cells false z3 (edges n.ed),.cells false false [.int .i64 n.vars,.int .i64 n.states,.own z2 3 0 n.fi.length 1,.own z1 2 0 n.st.length 1,.own z3 4 0 n.ed.length 4]] n.ed (by omega) rfl rfl rfl
 rw [List.take_zero,List.drop_zero,List.nil_append] at k2
 have g1 : G'[1]? = some (.cells false false [.int .i64 0,.int .i64 0,.sl true 0 [],.sl true 0 [],.sl true 0 []]) := k3 1 (by simp) (by decide)
 have g2 : G'[2]? = some (.cells false z1 (xBd n.st)) := k3 2 (by simp) (by decide)
 have g3 : G'[3]? = some (.cells false z2 (xBd n.fi)) := k3 3 (by simp) (by decide)
 have g5 : G'[5]? = some (.cells false false [.int .i64 n.vars,.int .i64 n.states,.own z2 3 0 n.fi.length 1,.own z1 2 0 n.st.length 1,.own z3 4 0 n.ed.length 4]) := k3 5 (by simp) (by decide)
 have lg := (List.getElem?_eq_some_iff.1 g1).1
 have hml : (n.ed.map xBl).length = n.ed.length := List.length_map _
 have hcut : List.take (n.ed.length * 4) (edges (n.ed.map xBl)) = edges (n.ed.map xBl) := List.take_of_length_le (by rw [xAa,hml]; omega)
 have hfe := fun d H => xAq d H (n.ed.map xBl)
 have hle : (edges (n.ed.map xBl)).length = n.ed.length * 4 := by rw [xAa,hml]
 have k1' : L.loop xOo xW4 ⟨xOp (.ptr 1 0) (.ptr 5 0) (.int .i64 0),[.cells false false n.cells,.cells false false [.int .i64 0,.int .i64 0,.sl true 0 [],.sl true 0 [],.sl true 0 []],.cells false z1 (xBd n.st),.cells false z2 (xBd n.fi),.cells false z3 (edges n.ed),.cells false false [.int .i64 n.vars,.int .i64 n.states,.own z2 3 0 n.fi.length 1,.own z1 2 0 n.st.length 1,.own z3 4 0 n.ed.length 4]]⟩ = _ := k1
 have q1 : (G'.set 1 (.cells false false [.int .i64 n.vars,.int .i64 n.states,.own z2 3 0 n.fi.length 1,.own z1 2 0 n.st.length 1,.own z3 4 0 n.ed.length 4]))[1]? = some (.cells false false [.int .i64 n.vars,.int .i64 n.states,.own z2 3 0 n.fi.length 1,.own z1 2 0 n.st.length 1,.own z3 4 0 n.ed.length 4]) := by rw [List.getElem?_set_self lg]
 have q2 : ∀ X : Blk,(G'.set 1 X)[2]? = some (.cells false z1 (xBd n.st)) := fun X => by rw [List.getElem?_set_ne (by decide)]; exact g2
 have q3 : ∀ X : Blk,(G'.set 1 X)[3]? = some (.cells false z2 (xBd n.fi)) := fun X => by rw [List.getElem?_set_ne (by decide)]; exact g3
 have q4 : ∀ X : Blk,(G'.set 1 X)[4]? = some (.cells false z3 (edges (n.ed.map xBl))) := fun X => by rw [List.getElem?_set_ne (by decide)]; exact k2
 refine ⟨z2,z1,z3,?_⟩
 have hav : (yBJ n z2 z1 z3).av = .agg [.int .i64 n.vars,.int .i64 n.states,.sl z2 n.fi.length (xBd n.fi),.sl z1 n.st.length (xBd n.st),.sl z3 n.ed.length (edges (n.ed.map xBl))] := by
  show AV.agg [_,_,_,_,.sl z3 (n.ed.map xBl).length _] = _
  rw [hml]; rfl
 rw [hav]
 clear k1 k3
 generalize edges (n.ed.map xBl) = LE at *
 rw [yDN,a12,xAK]
 simp (maxSteps := 30000000) (disch := first | assumption | omega | (simp only [WL,AV.isCell,xAa] <;> omega) | rfl | decide) only [↓reduceIte,WB,xAR,xAc,xAQ,xAD,xAC,AV.cells,AV.isCell,xAb,xAj,xAk,xAs,xAt,xAu,xAv,xAw,xAx,xAL,xAy,xAz,xAl,xAA,xAm,xAn,xAB,xAo,xAp,xAf,Nat.reduceDiv,Nat.reduceMod,WP,xAI,xAF,xAX,xAW,xAV,xAG,xAH,xAE,W2,xAd,xAe,xAi,Nat.reduceAdd,Nat.reduceSub,Nat.reduceLeDiff,Nat.reduceMul,Int.reduceAdd,Int.reduceSub,Int.reduceMul,Int.reduceLT,Int.reduceLE,Int.reduceEq,Int.reduceToNat,Int.reduceNeg,Nat.reduceEqDiff,Nat.reduceBEq,Nat.reduceLT,xAa,xAg,xAq,xAr,xAM,h0,h14,xW5,k1',g1,g5,q1,q2,q3,q4,hi1,hi2,hcut,hfe,hle]
theorem xSG {l : List Int} {i : Nat} (h : i < l.length) : l.getD i 0 ∈ l := by
 rw [List.getD_eq_getElem?_getD,List.getElem?_eq_getElem h]
 exact List.getElem_mem _
set_option maxHeartbeats 4000000 in
theorem xUU {a b : Aut} {p : Nat} {s4 : AV} {c0 c1 : Int} {o3 o4 : AV} (i1 : o3.isCell = true) (i2 : o4.isCell = true) (hp2 : 2 < p) (hl : b.st.length < 1000) (hA : 0 ≤ a.states ∧ a.states ≤ 64) (hq : ∀ q ∈ b.st,0 ≤ q ∧ q < 64) : ∀ d i G z k l,i + d = b.st.length → l.length + d < 100000 → G[0]? = some (.cells false false a.cells) → G[1]? = some (.cells false false b.cells) →
   G[p]? = some (.cells false false [.int .i64 c0,.int .i64 c1,.own z k 0 l.length 1,o3,o4]) → G[k]? = some (.cells false z (xBd l)) → 2 < k → k ≠ p →
  ∃ G' z' k',L.loop xRn xZl ⟨xRo (.ptr 0 0) (.ptr 1 0) s4 (.ptr p 0) (.int .i64 (i : Nat)),G⟩ = some (.exit 0,⟨xRo (.ptr 0 0) (.ptr 1 0) s4 (.ptr p 0) (.int .i64 (b.st.length : Nat)),G'⟩) ∧
   G'[p]? = some (.cells false false [.int .i64 c0,.int .i64 c1,.own z' k' 0 (l ++ (b.st.drop i).map (a.states + ·)).length 1,o3,o4]) ∧ G'[k']? = some (.cells false z' (xBd (l ++ (b.st.drop i).map (a.states + ·)))) ∧ (k' = k ∨ G.length ≤ k') ∧ G.length ≤ G'.length ∧ ∀ j,j < G.length → j ≠ p → j ≠ k → G'[j]? = G[j]?
 | 0,i,G,z,k,l,h,hll,ha,hb,hp,hk,k2,kp => by
  obtain rfl : i = b.st.length := by omega
  refine ⟨G,z,k,?_,by rw [List.drop_length]; simpa using hp,by rw [List.drop_length]; simpa using hk,.inl rfl,Nat.le_refl _,fun _ _ _ _ => rfl⟩
  rw [yAp]
  simp (maxSteps := 30000000) (disch := first | assumption | omega | (simp only [WL,AV.isCell,xAa] <;> omega) | rfl | decide) only [↓reduceIte,WB,xAR,xAc,xAQ,xAD,xAC,AV.cells,AV.isCell,xAb,xAj,xAk,xAs,xAt,xAu,xAv,xAw,xAx,xAL,xAy,xAz,xAl,xAA,xAm,xAn,xAB,xAo,xAp,xAf,Nat.reduceDiv,Nat.reduceMod,WP,xAI,xAF,xAX,xAW,xAV,xAG,xAH,xAE,W2,xAd,xAe,xAi,Nat.reduceAdd,Nat.reduceSub,Nat.reduceLeDiff,Nat.reduceMul,Int.reduceAdd,Int.reduceSub,Int.reduceMul,Int.reduceLT,Int.reduceLE,Int.reduceEq,Int.reduceToNat,Int.reduceNeg,Nat.reduceEqDiff,Nat.reduceBEq,Nat.reduceLT,xAa,xAg,xAq,xAr,xAM,xUg,xW6,hb]
 | d + 1,i,G,z,k,l,h,hll,ha,hb,hp,hk,k2,kp => by
  have hlt : (i : Int) < (b.st.length : Nat) := by omega
  have hqi := hq _ (xSG (by omega : i < b.st.length))
  have hwr : IntKind.i64.wrap (a.states + b.st.getD i 0) = a.states + b.st.getD i 0 := xNP (by omega) (by omega)
  have hd : (b.st.drop i).map (a.states + ·) = (a.states + b.st.getD i 0) :: (b.st.drop (i + 1)).map (a.states + ·) := by rw [xBz (by omega)]; rfl
  rw [hd]
  generalize hx : b.st.getD i 0 = q at *
  have e : ∀ r : List Int,l ++ (a.states + q) :: r = l ++ [a.states + q] ++ r := fun r => by simp
  rw [e]
  have lp := (List.getElem?_eq_some_iff.1 hp).1
  have lk := (List.getElem?_eq_some_iff.1 hk).1
  have hlen : (l ++ [a.states + q]).length = l.length + 1 := by simp
  obtain ⟨G',z',k',h1,h2,h3,h4,h5,h6⟩ := xUU (s4 := s4) (c0 := c0) (c1 := c1) i1 i2 hp2 hl hA hq d (i + 1) ((G.set k Blk.dead ++ [Blk.cells false false (xBd (l ++ [a.states + q]))]).set p (Blk.cells false false [.int .i64 c0,.int .i64 c1,.own false G.length 0 (l.length + 1) 1,o3,o4])) false G.length (l ++ [a.states + q]) (by omega) (by rw [hlen]; omega)
   (by rw [List.getElem?_set_ne (by omega),List.getElem?_append_left (by simp; omega),List.getElem?_set_ne (by omega)]; exact ha)
   (by rw [List.getElem?_set_ne (by omega),List.getElem?_append_left (by simp; omega),List.getElem?_set_ne (by omega)]; exact hb)
   (by rw [List.getElem?_set_self (by simp; omega),hlen])
   (by rw [List.getElem?_set_ne (by omega),List.getElem?_append_right (by simp),List.length_set,Nat.sub_self]; rfl) (by omega) (by omega)
  refine ⟨G',z',k',?_,h2,h3,.inr (by simp at h4 h5; omega),by simp at h5; omega,fun j hj jp jk => ?_⟩
  ·have hsn : xBd l ++ [AV.int .i64 (a.states + q)] = xBd (l ++ [a.states + q]) := by simp [xBd]
   have hil := xAT l
   have hit := xBO l
   have hpd : (G.set k Blk.dead ++ [Blk.cells false false (xBd (l ++ [a.states + q]))])[p]? = some (.cells false false [.int .i64 c0,.int .i64 c1,.own z k 0 l.length 1,o3,o4]) := by rw [List.getElem?_append_left (by simpa using lp),List.getElem?_set_ne kp]; exact hp
   clear h2 h3 h4 h5 h6 e hd
   generalize xBd (l ++ [a.states + q]) = L2 at *
   generalize xBd l = L1 at *
   rw [yAp]
   simp (maxSteps := 30000000) (disch := first | assumption | omega | (simp only [WL,AV.isCell,xAa] <;> omega) | rfl | decide) only [↓reduceIte,WB,xAR,xAc,xAQ,xAD,xAC,AV.cells,AV.isCell,xAb,xAj,xAk,xAs,xAt,xAu,xAv,xAw,xAx,xAL,xAy,xAz,xAl,xAA,xAm,xAn,xAB,xAo,xAp,xAf,Nat.reduceDiv,Nat.reduceMod,WP,xAI,xAF,xAX,xAW,xAV,xAG,xAH,xAE,W2,xAd,xAe,xAi,Nat.reduceAdd,Nat.reduceSub,Nat.reduceLeDiff,Nat.reduceMul,Int.reduceAdd,Int.reduceSub,Int.reduceMul,Int.reduceLT,Int.reduceLE,Int.reduceEq,Int.reduceToNat,Int.reduceNeg,Nat.reduceEqDiff,Nat.reduceBEq,Nat.reduceLT,xAa,xAg,xAq,xAr,xAM,xUg,xW6,ha,hb,hp,hlt,hx,hwr,hk,hil,hit,hsn,hpd,h1]
  ·rw [h6 j (by simp; omega) jp (by omega),List.getElem?_set_ne (fun h => jp h.symm),List.getElem?_append_left (by simpa using hj),List.getElem?_set_ne (fun h => jk h.symm)]
set_option maxHeartbeats 4000000 in
theorem xUV {a b : Aut} {p : Nat} {s4 : AV} {c0 c1 : Int} {o2 o4 : AV} (i1 : o2.isCell = true) (i2 : o4.isCell = true) (hp2 : 2 < p) (hl : b.fi.length < 1000) (hA : 0 ≤ a.states ∧ a.states ≤ 64) (hq : ∀ q ∈ b.fi,0 ≤ q ∧ q < 64) : ∀ d i G z k l,i + d = b.fi.length → l.length + d < 100000 → G[0]? = some (.cells false false a.cells) → G[1]? = some (.cells false false b.cells) →
   G[p]? = some (.cells false false [.int .i64 c0,.int .i64 c1,o2,.own z k 0 l.length 1,o4]) → G[k]? = some (.cells false z (xBd l)) → 2 < k → k ≠ p →
  ∃ G' z' k',L.loop xRp xZm ⟨xRq (.ptr 0 0) (.ptr 1 0) s4 (.ptr p 0) (.int .i64 (i : Nat)),G⟩ = some (.exit 2,⟨xRq (.ptr 0 0) (.ptr 1 0) s4 (.ptr p 0) (.int .i64 (b.fi.length : Nat)),G'⟩) ∧
   G'[p]? = some (.cells false false [.int .i64 c0,.int .i64 c1,o2,.own z' k' 0 (l ++ (b.fi.drop i).map (a.states + ·)).length 1,o4]) ∧ G'[k']? = some (.cells false z' (xBd (l ++ (b.fi.drop i).map (a.states + ·)))) ∧ (k' = k ∨ G.length ≤ k') ∧ G.length ≤ G'.length ∧ ∀ j,j < G.length → j ≠ p → j ≠ k → G'[j]? = G[j]?
 | 0,i,G,z,k,l,h,hll,ha,hb,hp,hk,k2,kp => by
  obtain rfl : i = b.fi.length := by omega
  refine ⟨G,z,k,?_,by rw [List.drop_length]; simpa using hp,by rw [List.drop_length]; simpa using hk,.inl rfl,Nat.le_refl _,fun _ _ _ _ => rfl⟩
  rw [yAq]
  simp (maxSteps := 30000000) (disch := first | assumption | omega | (simp only [WL,AV.isCell,xAa] <;> omega) | rfl | decide) only [↓reduceIte,WB,xAR,xAc,xAQ,xAD,xAC,AV.cells,AV.isCell,xAb,xAj,xAk,xAs,xAt,xAu,xAv,xAw,xAx,xAL,xAy,xAz,xAl,xAA,xAm,xAn,xAB,xAo,xAp,xAf,Nat.reduceDiv,Nat.reduceMod,WP,xAI,xAF,xAX,xAW,xAV,xAG,xAH,xAE,W2,xAd,xAe,xAi,Nat.reduceAdd,Nat.reduceSub,Nat.reduceLeDiff,Nat.reduceMul,Int.reduceAdd,Int.reduceSub,Int.reduceMul,Int.reduceLT,Int.reduceLE,Int.reduceEq,Int.reduceToNat,Int.reduceNeg,Nat.reduceEqDiff,Nat.reduceBEq,Nat.reduceLT,xAa,xAg,xAq,xAr,xAM,xUh,xW7,hb]
 | d + 1,i,G,z,k,l,h,hll,ha,hb,hp,hk,k2,kp => by
  have hlt : (i : Int) < (b.fi.length : Nat) := by omega
  have hqi := hq _ (xSG (by omega : i < b.fi.length))
  have hwr : IntKind.i64.wrap (a.states + b.fi.getD i 0) = a.states + b.fi.getD i 0 := xNP (by omega) (by omega)
  have hd : (b.fi.drop i).map (a.states + ·) = (a.states + b.fi.getD i 0) :: (b.fi.drop (i + 1)).map (a.states + ·) := by rw [xBz (by omega)]; rfl
  rw [hd]
  generalize hx : b.fi.getD i 0 = q at *
  have e : ∀ r : List Int,l ++ (a.states + q) :: r = l ++ [a.states + q] ++ r := fun r => by simp
  rw [e]
  have lp := (List.getElem?_eq_some_iff.1 hp).1
  have lk := (List.getElem?_eq_some_iff.1 hk).1
  have hlen : (l ++ [a.states + q]).length = l.length + 1 := by simp
  obtain ⟨G',z',k',h1,h2,h3,h4,h5,h6⟩ := xUV (s4 := s4) (c0 := c0) (c1 := c1) i1 i2 hp2 hl hA hq d (i + 1) ((G.set k Blk.dead ++ [Blk.cells false false (xBd (l ++ [a.states + q]))]).set p (Blk.cells false false [.int .i64 c0,.int .i64 c1,o2,.own false G.length 0 (l.length + 1) 1,o4])) false G.length (l ++ [a.states + q]) (by omega) (by rw [hlen]; omega)
   (by rw [List.getElem?_set_ne (by omega),List.getElem?_append_left (by simp; omega),List.getElem?_set_ne (by omega)]; exact ha)
   (by rw [List.getElem?_set_ne (by omega),List.getElem?_append_left (by simp; omega),List.getElem?_set_ne (by omega)]; exact hb)
   (by rw [List.getElem?_set_self (by simp; omega),hlen])
   (by rw [List.getElem?_set_ne (by omega),List.getElem?_append_right (by simp),List.length_set,Nat.sub_self]; rfl) (by omega) (by omega)
  refine ⟨G',z',k',?_,h2,h3,.inr (by simp at h4 h5; omega),by simp at h5; omega,fun j hj jp jk => ?_⟩
  ·have hsn : xBd l ++ [AV.int .i64 (a.states + q)] = xBd (l ++ [a.states + q]) := by simp [xBd]
   have hil := xAT l
   have hit := xBO l
   have hpd : (G.set k Blk.dead ++ [Blk.cells false false (xBd (l ++ [a.states + q]))])[p]? = some (.cells false false [.int .i64 c0,.int .i64 c1,o2,.own z k 0 l.length 1,o4]) := by rw [List.getElem?_append_left (by simpa using lp),List.getElem?_set_ne kp]; exact hp
   clear h2 h3 h4 h5 h6 e hd
   generalize xBd (l ++ [a.states + q]) = L2 at *
   generalize xBd l = L1 at *
   rw [yAq]
   simp (maxSteps := 30000000) (disch := first | assumption | omega | (simp only [WL,AV.isCell,xAa] <;> omega) | rfl | decide) only [↓reduceIte,WB,xAR,xAc,xAQ,xAD,xAC,AV.cells,AV.isCell,xAb,xAj,xAk,xAs,xAt,xAu,xAv,xAw,xAx,xAL,xAy,xAz,xAl,xAA,xAm,xAn,xAB,xAo,xAp,xAf,Nat.reduceDiv,Nat.reduceMod,WP,xAI,xAF,xAX,xAW,xAV,xAG,xAH,xAE,W2,xAd,xAe,xAi,Nat.reduceAdd,Nat.reduceSub,Nat.reduceLeDiff,Nat.reduceMul,Int.reduceAdd,Int.reduceSub,Int.reduceMul,Int.reduceLT,Int.reduceLE,Int.reduceEq,Int.reduceToNat,Int.reduceNeg,Nat.reduceEqDiff,Nat.reduceBEq,Nat.reduceLT,xAa,xAg,xAq,xAr,xAM,xUh,xW7,ha,hb,hp,hlt,hx,hwr,hk,hil,hit,hsn,hpd,h1]
  ·rw [h6 j (by simp; omega) jp (by omega),List.getElem?_set_ne (fun h => jp h.symm),List.getElem?_append_left (by simpa using hj),List.getElem?_set_ne (fun h => jk h.symm)]
def shR (s : Int) (e : Ed) : Ed := ⟨s + e.a,s + e.b,e.p,e.n⟩
set_option maxHeartbeats 4000000 in
theorem xUW {a b : Aut} {p : Nat} {s4 : AV} {c0 c1 : Int} {o2 o3 : AV} (i1 : o2.isCell = true) (i2 : o3.isCell = true) (hp2 : 2 < p) (hl : b.ed.length < 1000) (hA : 0 ≤ a.states ∧ a.states ≤ 64) (hq : ∀ e ∈ b.ed,(0 ≤ e.a ∧ e.a < 64) ∧ 0 ≤ e.b ∧ e.b < 64) : ∀ d i G z k l,i + d = b.ed.length → l.length + d < 100000 → G[0]? = some (.cells false false a.cells) → G[1]? = some (.cells false false b.cells) →
   G[p]? = some (.cells false false [.int .i64 c0,.int .i64 c1,o2,o3,.own z k 0 l.length 4]) → G[k]? = some (.cells false z (edges l)) → 2 < k → k ≠ p →
  ∃ G' z' k',L.loop xRr xZn ⟨xRs (.ptr 0 0) (.ptr 1 0) s4 (.ptr p 0) (.int .i64 (i : Nat)),G⟩ = some (.exit 4,⟨xRs (.ptr 0 0) (.ptr 1 0) s4 (.ptr p 0) (.int .i64 (b.ed.length : Nat)),G'⟩) ∧
   G'[p]? = some (.cells false false [.int .i64 c0,.int .i64 c1,o2,o3,.own z' k' 0 (l ++ (b.ed.drop i).map (shR a.states)).length 4]) ∧ G'[k']? = some (.cells false z' (edges (l ++ (b.ed.drop i).map (shR a.states)))) ∧ (k' = k ∨ G.length ≤ k') ∧ G.length ≤ G'.length ∧ ∀ j,j < G.length → j ≠ p → j ≠ k → G'[j]? = G[j]?
 | 0,i,G,z,k,l,h,hll,ha,hb,hp,hk,k2,kp => by
  obtain rfl : i = b.ed.length := by omega
  refine ⟨G,z,k,?_,by rw [List.drop_length]; simpa using hp,by rw [List.drop_length]; simpa using hk,.inl rfl,Nat.le_refl _,fun _ _ _ _ => rfl⟩
  rw [yAr]
  simp (maxSteps := 30000000) (disch := first | assumption | omega | (simp only [WL,AV.isCell,xAa] <;> omega) | rfl | decide) only [↓reduceIte,WB,xAR,xAc,xAQ,xAD,xAC,AV.cells,AV.isCell,xAb,xAj,xAk,xAs,xAt,xAu,xAv,xAw,xAx,xAL,xAy,xAz,xAl,xAA,xAm,xAn,xAB,xAo,xAp,xAf,Nat.reduceDiv,Nat.reduceMod,WP,xAI,xAF,xAX,xAW,xAV,xAG,xAH,xAE,W2,xAd,xAe,xAi,Nat.reduceAdd,Nat.reduceSub,Nat.reduceLeDiff,Nat.reduceMul,Int.reduceAdd,Int.reduceSub,Int.reduceMul,Int.reduceLT,Int.reduceLE,Int.reduceEq,Int.reduceToNat,Int.reduceNeg,Nat.reduceEqDiff,Nat.reduceBEq,Nat.reduceLT,xAa,xAg,xAq,xAr,xAM,xUi,xW8,hb]
 | d + 1,i,G,z,k,l,h,hll,ha,hb,hp,hk,k2,kp => by
  have hlt : (i : Int) < (b.ed.length : Nat) := by omega
  have hqi := hq _ (xFB (by omega : i < b.ed.length))
  have hat := xAg (show i < b.ed.length by omega)
  have hwa : IntKind.i64.wrap (a.states + (b.ed.getD i e0).a) = a.states + (b.ed.getD i e0).a := xNP (by omega) (by omega)
  have hwb : IntKind.i64.wrap (a.states + (b.ed.getD i e0).b) = a.states + (b.ed.getD i e0).b := xNP (by omega) (by omega)
  have hd : (b.ed.drop i).map (shR a.states) = shR a.states (b.ed.getD i e0) :: (b.ed.drop (i + 1)).map (shR a.states) := by rw [xCV (by omega),List.map_cons]
  rw [hd]
  generalize b.ed.getD i e0 = x at *
  have e : ∀ r : List Ed,l ++ shR a.states x :: r = l ++ [shR a.states x] ++ r := fun r => by simp
  rw [e]
  have lp := (List.getElem?_eq_some_iff.1 hp).1
  have lk := (List.getElem?_eq_some_iff.1 hk).1
  have hlen : (l ++ [shR a.states x]).length = l.length + 1 := by simp
  obtain ⟨G',z',k',h1,h2,h3,h4,h5,h6⟩ := xUW (s4 := s4) (c0 := c0) (c1 := c1) i1 i2 hp2 hl hA hq d (i + 1) (((G ++ [Blk.cells false false (xCX x)]).set k Blk.dead ++ [Blk.cells false false (edges (l ++ [shR a.states x]))]).set p (Blk.cells false false [.int .i64 c0,.int .i64 c1,o2,o3,.own false (G.length + 1) 0 (l.length + 1) 4])) false (G.length + 1) (l ++ [shR a.states x]) (by omega) (by rw [hlen]; omega)
   (by rw [List.getElem?_set_ne (by omega),List.getElem?_append_left (by simp <;> omega),List.getElem?_set_ne (by omega),List.getElem?_append_left (by omega)]; exact ha)
   (by rw [List.getElem?_set_ne (by omega),List.getElem?_append_left (by simp <;> omega),List.getElem?_set_ne (by omega),List.getElem?_append_left (by omega)]; exact hb)
   (by rw [List.getElem?_set_self (by simp; omega),hlen])
   (by rw [List.getElem?_set_ne (by omega),List.getElem?_append_right (by simp)]; simp) (by omega) (by omega)
  refine ⟨G',z',k',?_,h2,h3,.inr (by simp at h4 h5; omega),by simp at h5; omega,fun j hj jp jk => ?_⟩
  ·have hsn : edges l ++ [AV.int .i64 (a.states + x.a),.int .i64 (a.states + x.b),.int .u8 (x.p : Nat),.int .u8 (x.n : Nat)] = edges (l ++ [shR a.states x]) := xG7 l (shR a.states x)
   have hcut : List.take (l.length * 4) (edges l) = edges l := List.take_of_length_le (by rw [xAa]; omega)
   have hel := xAa l
   have ha1 := fun y : Blk => xBh (X := [y]) ha
   have hp1 := fun y : Blk => xBh (X := [y]) hp
   have hk1 := fun y : Blk => xBh (X := [y]) hk
   have hpd : ((G ++ [Blk.cells false false (xCX x)]).set k Blk.dead ++ [Blk.cells false false (edges (l ++ [shR a.states x]))])[p]? = some (.cells false false [.int .i64 c0,.int .i64 c1,o2,o3,.own z k 0 l.length 4]) := by rw [List.getElem?_append_left (by simp; omega),List.getElem?_set_ne kp]; exact hp1 _
   simp only [xCX] at h1 hpd
   clear h2 h3 h4 h5 h6 e hd
   generalize edges (l ++ [shR a.states x]) = L2 at *
   generalize edges l = L1 at *
   rw [yAr]
   simp (maxSteps := 30000000) (disch := first | assumption | omega | (simp only [WL,AV.isCell,xAa] <;> omega) | rfl | decide) only [↓reduceIte,WB,xAR,xAc,xAQ,xAD,xAC,AV.cells,AV.isCell,xAb,xAj,xAk,xAs,xAt,xAu,xAv,xAw,xAx,xAL,xAy,xAz,xAl,xAA,xAm,xAn,xAB,xAo,xAp,xAf,Nat.reduceDiv,Nat.reduceMod,WP,xAI,xAF,xAX,xAW,xAV,xAG,xAH,xAE,W2,xAd,xAe,xAi,Nat.reduceAdd,Nat.reduceSub,Nat.reduceLeDiff,Nat.reduceMul,Int.reduceAdd,Int.reduceSub,Int.reduceMul,Int.reduceLT,Int.reduceLE,Int.reduceEq,Int.reduceToNat,Int.reduceNeg,Nat.reduceEqDiff,Nat.reduceBEq,Nat.reduceLT,xAa,xAg,xAq,xAr,xAM,xUi,xW8,ha,hb,hp,hlt,hat,hwa,hwb,ha1,hp1,hk1,hel,hcut,hsn,hpd,h1]
  ·rw [h6 j (by simp; omega) jp (by omega),List.getElem?_set_ne (fun h => jp h.symm),List.getElem?_append_left (by simp; omega),List.getElem?_set_ne (fun h => jk h.symm),List.getElem?_append_left hj]
theorem xSH {a b : Aut} {ea eb : Int} (ha : L.pcall 8 [a.av] = some (.int .i64 ea)) (hb : L.pcall 8 [b.av] = some (.int .i64 eb)) :
  (ea ≠ 0 → L.pcall 13 [a.av,b.av] = some (.tup [xJF,.int .i64 ea])) ∧ (ea = 0 → eb ≠ 0 → L.pcall 13 [a.av,b.av] = some (.tup [xJF,.int .i64 eb])) := by
 refine ⟨fun h => ?_,fun h h' => ?_⟩
 ·rw [yB0,a13,xAK]
  simp (maxSteps := 30000000) (disch := first | assumption | omega | (simp only [WL,AV.isCell,xAa] <;> omega) | rfl | decide) only [↓reduceIte,WB,xAR,xAc,xAQ,xAD,xAC,AV.cells,AV.isCell,xAb,xAj,xAk,xAs,xAt,xAu,xAv,xAw,xAx,xAL,xAy,xAz,xAl,xAA,xAm,xAn,xAB,xAo,xAp,xAf,Nat.reduceDiv,Nat.reduceMod,WP,xAI,xAF,xAX,xAW,xAV,xAG,xAH,xAE,W2,xAd,xAe,xAi,Nat.reduceAdd,Nat.reduceSub,Nat.reduceLeDiff,Nat.reduceMul,Int.reduceAdd,Int.reduceSub,Int.reduceMul,Int.reduceLT,Int.reduceLE,Int.reduceEq,Int.reduceToNat,Int.reduceNeg,Nat.reduceEqDiff,Nat.reduceBEq,Nat.reduceLT,xAa,xAg,xAq,xAr,xAM,ha,h]
 ·subst h
  rw [yB0,a13,xAK]
  simp (maxSteps := 30000000) (disch := first | assumption | omega | (simp only [WL,AV.isCell,xAa] <;> omega) | rfl | decide) only [↓reduceIte,WB,xAR,xAc,xAQ,xAD,xAC,AV.cells,AV.isCell,xAb,xAj,xAk,xAs,xAt,xAu,xAv,xAw,xAx,xAL,xAy,xAz,xAl,xAA,xAm,xAn,xAB,xAo,xAp,xAf,Nat.reduceDiv,Nat.reduceMod,WP,xAI,xAF,xAX,xAW,xAV,xAG,xAH,xAE,W2,xAd,xAe,xAi,Nat.reduceAdd,Nat.reduceSub,Nat.reduceLeDiff,Nat.reduceMul,Int.reduceAdd,Int.reduceSub,Int.reduceMul,Int.reduceLT,Int.reduceLE,Int.reduceEq,Int.reduceToNat,Int.reduceNeg,Nat.reduceEqDiff,Nat.reduceBEq,Nat.reduceLT,xAa,xAg,xAq,xAr,xAM,ha,hb,h']
theorem xUX {a b : Aut} (ha : L.pcall 8 [a.av] = some (.int .i64 0)) (hb : L.pcall 8 [b.av] = some (.int .i64 0)) (va : Valid a) (vb : Valid b) :
  (a.vars ≠ b.vars → L.pcall 13 [a.av,b.av] = some (.tup [xJF,.int .i64 7])) ∧
  (a.vars = b.vars → (64 < a.states + b.states ∨ 512 < a.ed.length + b.ed.length) → L.pcall 13 [a.av,b.av] = some (.tup [xJF,.int .i64 4])) := by
 have hs : IntKind.i64.wrap (a.states + b.states) = a.states + b.states := by have := va.s64; have := vb.s64; have := va.s0; have := vb.s0; exact xNP (by omega) (by omega)
 have hl : IntKind.i64.wrap ((a.ed.length + b.ed.length : Nat) : Int) = ((a.ed.length + b.ed.length : Nat) : Int) := by have := va.el; have := vb.el; exact xNP (by omega) (by omega)
 refine ⟨fun h => ?_,fun h h' => ?_⟩
 ·rw [yB0,a13,xAK]
  simp (maxSteps := 30000000) (disch := first | assumption | omega | (simp only [WL,AV.isCell,xAa] <;> omega) | rfl | decide) only [↓reduceIte,WB,xAR,xAc,xAQ,xAD,xAC,AV.cells,AV.isCell,xAb,xAj,xAk,xAs,xAt,xAu,xAv,xAw,xAx,xAL,xAy,xAz,xAl,xAA,xAm,xAn,xAB,xAo,xAp,xAf,Nat.reduceDiv,Nat.reduceMod,WP,xAI,xAF,xAX,xAW,xAV,xAG,xAH,xAE,W2,xAd,xAe,xAi,Nat.reduceAdd,Nat.reduceSub,Nat.reduceLeDiff,Nat.reduceMul,Int.reduceAdd,Int.reduceSub,Int.reduceMul,Int.reduceLT,Int.reduceLE,Int.reduceEq,Int.reduceToNat,Int.reduceNeg,Nat.reduceEqDiff,Nat.reduceBEq,Nat.reduceLT,xAa,xAg,xAq,xAr,xAM,ha,hb,h]
 ·have hve : (a.vars = b.vars) = True := eq_true h
  by_cases c : 64 < a.states + b.states
  ·rw [yB0,a13,xAK]
   simp (maxSteps := 30000000) (disch := first | assumption | omega | (simp only [WL,AV.isCell,xAa] <;> omega) | rfl | decide) only [↓reduceIte,WB,xAR,xAc,xAQ,xAD,xAC,AV.cells,AV.isCell,xAb,xAj,xAk,xAs,xAt,xAu,xAv,xAw,xAx,xAL,xAy,xAz,xAl,xAA,xAm,xAn,xAB,xAo,xAp,xAf,Nat.reduceDiv,Nat.reduceMod,WP,xAI,xAF,xAX,xAW,xAV,xAG,xAH,xAE,W2,xAd,xAe,xAi,Nat.reduceAdd,Nat.reduceSub,Nat.reduceLeDiff,Nat.reduceMul,Int.reduceAdd,Int.reduceSub,Int.reduceMul,Int.reduceLT,Int.reduceLE,Int.reduceEq,Int.reduceToNat,Int.reduceNeg,Nat.reduceEqDiff,Nat.reduceBEq,Nat.reduceLT,xAa,xAg,xAq,xAr,xAM,ha,hb,hve,hs,c]
  ·have c2 : (512 : Int) < ((a.ed.length + b.ed.length : Nat) : Int) := by omega
   rw [yB0,a13,xAK]
   simp (maxSteps := 30000000) (disch := first | assumption | omega | (simp only [WL,AV.isCell,xAa] <;> omega) | rfl | decide) only [↓reduceIte,WB,xAR,xAc,xAQ,xAD,xAC,AV.cells,AV.isCell,xAb,xAj,xAk,xAs,xAt,xAu,xAv,xAw,xAx,xAL,xAy,xAz,xAl,xAA,xAm,xAn,xAB,xAo,xAp,xAf,Nat.reduceDiv,Nat.reduceMod,WP,xAI,xAF,xAX,xAW,xAV,xAG,xAH,xAE,W2,xAd,xAe,xAi,Nat.reduceAdd,Nat.reduceSub,Nat.reduceLeDiff,Nat.reduceMul,Int.reduceAdd,Int.reduceSub,Int.reduceMul,Int.reduceLT,Int.reduceLE,Int.reduceEq,Int.reduceToNat,Int.reduceNeg,Nat.reduceEqDiff,Nat.reduceBEq,Nat.reduceLT,xAa,xAg,xAq,xAr,xAM,ha,hb,hve,hs,hl,c,c2]
abbrev yAM : Blk := .cells false false [.int .i64 0,.int .i64 0,.sl true 0 [],.sl true 0 [],.sl true 0 []]
set_option maxHeartbeats 8000000 in
theorem yDA {a b : Aut} (ha : L.pcall 8 [a.av] = some (.int .i64 0)) (hb : L.pcall 8 [b.av] = some (.int .i64 0)) (va : Valid a) (vb : Valid b) (fa : Fits a) (fb : Fits b)
  (h1 : b.st.length < 1000) (h2 : b.fi.length < 1000) (ha1 : a.st.length < 1000) (ha2 : a.fi.length < 1000) (hv : a.vars = b.vars) (hn : a.states + b.states ≤ 64) (he : a.ed.length + b.ed.length ≤ 512) :
  ∃ z1 z2 z3,L.pcall 13 [a.av,b.av] = some (.tup [(Aut.mk a.vars (a.states + b.states) z1 (a.st ++ b.st.map (a.states + ·)) z2 (a.fi ++ b.fi.map (a.states + ·)) z3 (a.ed ++ b.ed.map (shR a.states))).av,.int .i64 0]) := by
 have hs : IntKind.i64.wrap (a.states + b.states) = a.states + b.states := by have := va.s64; have := vb.s64; have := va.s0; have := vb.s0; exact xNP (by omega) (by omega)
 have hl : IntKind.i64.wrap ((a.ed.length + b.ed.length : Nat) : Int) = ((a.ed.length + b.ed.length : Nat) : Int) := by have := va.el; have := vb.el; exact xNP (by omega) (by omega)
 have c : ¬ 64 < a.states + b.states := by omega
 have c2 : ¬ (512 : Int) < ((a.ed.length + b.ed.length : Nat) : Int) := by omega
 have hve : (a.vars = b.vars) = True := eq_true hv
 have hA : 0 ≤ a.states ∧ a.states ≤ 64 := ⟨va.s0,va.s64⟩
 have h14 := xYe a fa (by omega)
 generalize (a.st.length == 0) = z1 at *
 generalize (a.fi.length == 0) = z2 at *
 generalize (a.ed.length == 0) = z3 at *
 obtain ⟨G1,y1,k1,q1,q2,q3,q4,q5,q6⟩ := xUU (a := a) (b := b) (p := 6) (s4 := .ptr 2 0) (c0 := a.vars) (c1 := a.states + b.states) (o3 := .own z2 4 0 a.fi.length 1) (o4 := .own z3 5 0 a.ed.length 4) rfl rfl (by decide) h1 hA vb.st64 b.st.length 0
  [.cells false false a.cells,.cells false false b.cells,yAM,.cells false z1 (xBd a.st),.cells false z2 (xBd a.fi),.cells false z3 (edges a.ed),.cells false false [.int .i64 a.vars,.int .i64 (a.states + b.states),.own z1 3 0 a.st.length 1,.own z2 4 0 a.fi.length 1,.own z3 5 0 a.ed.length 4]] z1 3 a.st (by omega) (by omega) rfl rfl rfl rfl (by decide) (by decide)
 have e0 : G1[0]? = some (.cells false false a.cells) := q6 0 (by simp) (by decide) (by decide)
 have e1 : G1[1]? = some (.cells false false b.cells) := q6 1 (by simp) (by decide) (by decide)
 have e2 : G1[2]? = some yAM := q6 2 (by simp) (by decide) (by decide)
 have e4 : G1[4]? = some (.cells false z2 (xBd a.fi)) := q6 4 (by simp) (by decide) (by decide)
 have e5 : G1[5]? = some (.cells false z3 (edges a.ed)) := q6 5 (by simp) (by decide) (by decide)
 have k1' : k1 = 3 ∨ 7 ≤ k1 := q4
 have l1 : 7 ≤ G1.length := q5
 clear q6
 obtain ⟨G2,y2,k2,r1,r2,r3,r4,r5,r6⟩ := xUV (a := a) (b := b) (p := 6) (s4 := .ptr 2 0) (c0 := a.vars) (c1 := a.states + b.states) (o2 := .own y1 k1 0 (a.st ++ (b.st.drop 0).map (a.states + ·)).length 1) (o4 := .own z3 5 0 a.ed.length 4) rfl rfl (by decide) h2 hA vb.fi64 b.fi.length 0
  G1 z2 4 a.fi (by omega) (by omega) e0 e1 q2 e4 (by decide) (by decide)
 have lk1 := (List.getElem?_eq_some_iff.1 q3).1
 have g0 := (r6 0 (by omega) (by decide) (by decide)).trans e0
 have g1 := (r6 1 (by omega) (by decide) (by decide)).trans e1
 have g2 := (r6 2 (by omega) (by decide) (by decide)).trans e2
 have g5 := (r6 5 (by omega) (by decide) (by decide)).trans e5
 have gk1 := (r6 k1 lk1 (by omega) (by omega)).trans q3
 clear r6
 obtain ⟨G3,y3,k3,t1,t2,t3,t4,t5,t6⟩ := xUW (a := a) (b := b) (p := 6) (s4 := .ptr 2 0) (c0 := a.vars) (c1 := a.states + b.states) (o2 := .own y1 k1 0 (a.st ++ (b.st.drop 0).map (a.states + ·)).length 1) (o3 := .own y2 k2 0 (a.fi ++ (b.fi.drop 0).map (a.states + ·)).length 1) rfl rfl (by decide) (by omega) hA vb.ed64 b.ed.length 0
  G2 z3 5 a.ed (by omega) (by omega) g0 g1 r2 g5 (by decide) (by decide)
 have lk1' := (List.getElem?_eq_some_iff.1 gk1).1
 have lk2 := (List.getElem?_eq_some_iff.1 r3).1
 have w2 := (t6 2 (by omega) (by decide) (by decide)).trans g2
 have wk1 := (t6 k1 lk1' (by omega) (by omega)).trans gk1
 have wk2 := (t6 k2 lk2 (by omega) (by omega)).trans r3
 have lw := (List.getElem?_eq_some_iff.1 w2).1
 simp only [List.drop_zero,Int.natCast_zero] at q1 r1 t1 t2 t3 wk1 wk2
 refine ⟨y1,y2,y3,?_⟩
 generalize hM : Blk.cells false false [.int .i64 a.vars,.int .i64 (a.states + b.states),.own y1 k1 0 (a.st ++ b.st.map (a.states + ·)).length 1,.own y2 k2 0 (a.fi ++ b.fi.map (a.states + ·)).length 1,.own y3 k3 0 (a.ed ++ b.ed.map (shR a.states)).length 4] = M
 have x1 : (G3.set 2 M)[2]? = some M := by rw [List.getElem?_set_self lw]
 have x2 : (G3.set 2 M)[k1]? = _ := (List.getElem?_set_ne (by omega)).trans wk1
 have x3 : (G3.set 2 M)[k2]? = _ := (List.getElem?_set_ne (by omega)).trans wk2
 have x4 : (G3.set 2 M)[k3]? = _ := (List.getElem?_set_ne (by omega)).trans t3
 have i1 := xBO (a.st ++ b.st.map (a.states + ·))
 have i2 := xBO (a.fi ++ b.fi.map (a.states + ·))
 have i3 : List.take ((a.ed ++ b.ed.map (shR a.states)).length * 4) (edges (a.ed ++ b.ed.map (shR a.states))) = edges (a.ed ++ b.ed.map (shR a.states)) := List.take_of_length_le (by rw [xAa]; omega)
 subst hM
 clear q2 q3 q4 q5 r2 r3 r4 r5 t3 t4 t5 t6 gk1 e0 e1 e2 e4 e5 g0 g1 g5
 have il1 := xAT (a.st ++ b.st.map (a.states + ·))
 have il2 := xAT (a.fi ++ b.fi.map (a.states + ·))
 have il3 := xAa (a.ed ++ b.ed.map (shR a.states))
 have fz1 := fun d H => xBA d H (a.st ++ b.st.map (a.states + ·))
 have fz2 := fun d H => xBA d H (a.fi ++ b.fi.map (a.states + ·))
 have fz3 := fun d H => xAq d H (a.ed ++ b.ed.map (shR a.states))
 show _ = some (AV.tup [.agg [.int .i64 a.vars,.int .i64 (a.states + b.states),.sl y1 (a.st ++ b.st.map (a.states + ·)).length (xBd (a.st ++ b.st.map (a.states + ·))),.sl y2 (a.fi ++ b.fi.map (a.states + ·)).length (xBd (a.fi ++ b.fi.map (a.states + ·))),.sl y3 (a.ed ++ b.ed.map (shR a.states)).length (edges (a.ed ++ b.ed.map (shR a.states)))],.int .i64 0])
 generalize a.st ++ b.st.map (a.states + ·) = S1 at *
 generalize a.fi ++ b.fi.map (a.states + ·) = S2 at *
 generalize a.ed ++ b.ed.map (shR a.states) = S3 at *
 rw [yB0,a13,xAK]
 simp (maxSteps := 30000000) (disch := first | assumption | omega | (simp only [WL,AV.isCell,xAa] <;> omega) | rfl | decide) only [↓reduceIte,WB,xAR,xAc,xAQ,xAD,xAC,AV.cells,AV.isCell,xAb,xAj,xAk,xAs,xAt,xAu,xAv,xAw,xAx,xAL,xAy,xAz,xAl,xAA,xAm,xAn,xAB,xAo,xAp,xAf,Nat.reduceDiv,Nat.reduceMod,WP,xAI,xAF,xAX,xAW,xAV,xAG,xAH,xAE,W2,xAd,xAe,xAi,Nat.reduceAdd,Nat.reduceSub,Nat.reduceLeDiff,Nat.reduceMul,Int.reduceAdd,Int.reduceSub,Int.reduceMul,Int.reduceLT,Int.reduceLE,Int.reduceEq,Int.reduceToNat,Int.reduceNeg,Nat.reduceEqDiff,Nat.reduceBEq,Nat.reduceLT,xAa,xAg,xAq,xAr,xAM,xW6,xW7,xW8,ha,hb,hve,hs,hl,c,c2,h14,q1,r1,t1,t2,w2,x1,x2,x3,x4,i1,i2,i3,il1,il2,il3,fz1,fz2,fz3]
end Go.Abs.NfaD
