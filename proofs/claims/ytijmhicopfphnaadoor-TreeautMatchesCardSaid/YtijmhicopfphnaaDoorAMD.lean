/- Results of the caller's own overwritten: any contents. Equal sets,equal trees. -/
import Derived.Test.YtijmhicopfphnaaDoorAbsBun
import Derived.Test.YtijmhicopfphnaaDoorAMA
import Derived.Test.YtijmhicopfphnaaDoorAMC
import Derived.Test.YtijmhicopfphnaaDoorAMM
import Derived.Test.YtijmhicopfphnaaDoorAMB
import Derived.Test.YtijmhicopfphnaaDoorAB7
namespace Go.Abs.Tree
open Go Go.Abs
set_option linter.unusedSimpArgs false
set_option linter.unusedVariables false
theorem xGt {l : List Lf} {z z' : Bool} {s4 : AV} {H : Heap} (hl : l.length < 1099511627776) : ∀ d i,i + d = l.length →
  L.loop xNt xYM ⟨xNu (.sl z l.length (lfs l)) (.sl z' l.length (lfs l)) s4 (.int .i64 (i : Nat)),H⟩ = some (.exit 0,⟨xNu (.sl z l.length (lfs l)) (.sl z' l.length (lfs l)) s4 (.int .i64 (l.length : Nat)),H⟩)
 | 0,i,h => by
  obtain rfl : i = l.length := by omega
  rw [yAa]
  simp (maxSteps := 30000000) (disch := first | assumption | omega | (simp only [WL,AV.isCell,xAb,xAa] <;> omega) | rfl | decide) only [↓reduceIte,WB,xAW,xAd,xAV,xAm,xAl,AV.cells,AV.isCell,xAc,xAi,xAj,xAz,xAA,xAB,xAC,xAD,xAE,xAX,xAF,xAG,xAn,xAH,xAo,xAp,xAI,xAq,xAr,xAk,Nat.reduceDiv,Nat.reduceMod,WP,xAT,xAM,xBm,xBl,xBk,xAP,xAS,xAN,W2,xAe,xAf,xAh,Nat.reduceAdd,Nat.reduceSub,Nat.reduceLeDiff,Nat.reduceMul,Int.reduceAdd,Int.reduceSub,Int.reduceMul,Int.reduceLT,Int.reduceLE,Int.reduceEq,Int.reduceToNat,Int.reduceNeg,Nat.reduceEqDiff,Nat.reduceBEq,Nat.reduceLT,xAb,xAJ,xAa,xAx,xAy,xRl,xVf]
 | d + 1,i,h => by
  have hlt : (i : Int) < (l.length : Nat) := by omega
  have ih := xGt (z := z) (z' := z') (s4 := s4) (H := H) hl d (i + 1) (by omega)
  rw [yAa]
  simp (maxSteps := 30000000) (disch := first | assumption | omega | (simp only [WL,AV.isCell,xAb,xAa] <;> omega) | rfl | decide) only [↓reduceIte,WB,xAW,xAd,xAV,xAm,xAl,AV.cells,AV.isCell,xAc,xAi,xAj,xAz,xAA,xAB,xAC,xAD,xAE,xAX,xAF,xAG,xAn,xAH,xAo,xAp,xAI,xAq,xAr,xAk,Nat.reduceDiv,Nat.reduceMod,WP,xAT,xAM,xBm,xBl,xBk,xAP,xAS,xAN,W2,xAe,xAf,xAh,Nat.reduceAdd,Nat.reduceSub,Nat.reduceLeDiff,Nat.reduceMul,Int.reduceAdd,Int.reduceSub,Int.reduceMul,Int.reduceLT,Int.reduceLE,Int.reduceEq,Int.reduceToNat,Int.reduceNeg,Nat.reduceEqDiff,Nat.reduceBEq,Nat.reduceLT,xAb,xAJ,xAa,xAx,xAy,xRl,xVf,hlt,xCd,eq1,beq_self_eq_true,Bool.and_true,bne_self_eq_false,ih]
theorem xZM (z z' : Bool) (l : List Lf) (hl : l.length < 1099511627776) : L.pcall 26 [.sl z l.length (lfs l),.sl z' l.length (lfs l)] = some (.bool true) := by
 have ih := fun s4 => xGt (z := z) (z' := z') (s4 := s4) (H := []) hl l.length 0 (by omega)
 simp only [Int.natCast_zero] at ih
 rw [yGX,a26,xAu]
 simp (maxSteps := 30000000) (disch := first | assumption | omega | (simp only [WL,AV.isCell,xAb,xAa] <;> omega) | rfl | decide) only [↓reduceIte,WB,xAW,xAd,xAV,xAm,xAl,AV.cells,AV.isCell,xAc,xAi,xAj,xAz,xAA,xAB,xAC,xAD,xAE,xAX,xAF,xAG,xAn,xAH,xAo,xAp,xAI,xAq,xAr,xAk,Nat.reduceDiv,Nat.reduceMod,WP,xAT,xAM,xBm,xBl,xBk,xAP,xAS,xAN,W2,xAe,xAf,xAh,Nat.reduceAdd,Nat.reduceSub,Nat.reduceLeDiff,Nat.reduceMul,Int.reduceAdd,Int.reduceSub,Int.reduceMul,Int.reduceLT,Int.reduceLE,Int.reduceEq,Int.reduceToNat,Int.reduceNeg,Nat.reduceEqDiff,Nat.reduceBEq,Nat.reduceLT,xAb,xAJ,xAa,xAx,xAy,xVf,ih]
theorem xFz {l : List Nat} {z z' : Bool} {s4 : AV} {H : Heap} (hl : l.length < 1099511627776) : ∀ d i,i + d = l.length →
  L.loop xNr xYL ⟨xNs (sw z l) (sw z' l) s4 (.int .i64 (i : Nat)),H⟩ = some (.exit 0,⟨xNs (sw z l) (sw z' l) s4 (.int .i64 (l.length : Nat)),H⟩)
 | 0,i,h => by
  obtain rfl : i = l.length := by omega
  rw [xZ9]
  simp (maxSteps := 30000000) (disch := first | assumption | omega | (simp only [WL,AV.isCell,xAb,xAa] <;> omega) | rfl | decide) only [↓reduceIte,WB,xAW,xAd,xAV,xAm,xAl,AV.cells,AV.isCell,xAc,xAi,xAj,xAz,xAA,xAB,xAC,xAD,xAE,xAX,xAF,xAG,xAn,xAH,xAo,xAp,xAI,xAq,xAr,xAk,Nat.reduceDiv,Nat.reduceMod,WP,xAT,xAM,xBm,xBl,xBk,xAP,xAS,xAN,W2,xAe,xAf,xAh,Nat.reduceAdd,Nat.reduceSub,Nat.reduceLeDiff,Nat.reduceMul,Int.reduceAdd,Int.reduceSub,Int.reduceMul,Int.reduceLT,Int.reduceLE,Int.reduceEq,Int.reduceToNat,Int.reduceNeg,Nat.reduceEqDiff,Nat.reduceBEq,Nat.reduceLT,xAb,xAJ,xAa,xAx,xAy,xRk,xVe]
 | d + 1,i,h => by
  have hlt : (i : Int) < (l.length : Nat) := by omega
  have ih := xFz (z := z) (z' := z') (s4 := s4) (H := H) hl d (i + 1) (by omega)
  rw [xZ9]
  simp (maxSteps := 30000000) (disch := first | assumption | omega | (simp only [WL,AV.isCell,xAb,xAa] <;> omega) | rfl | decide) only [↓reduceIte,WB,xAW,xAd,xAV,xAm,xAl,AV.cells,AV.isCell,xAc,xAi,xAj,xAz,xAA,xAB,xAC,xAD,xAE,xAX,xAF,xAG,xAn,xAH,xAo,xAp,xAI,xAq,xAr,xAk,Nat.reduceDiv,Nat.reduceMod,WP,xAT,xAM,xBm,xBl,xBk,xAP,xAS,xAN,W2,xAe,xAf,xAh,Nat.reduceAdd,Nat.reduceSub,Nat.reduceLeDiff,Nat.reduceMul,Int.reduceAdd,Int.reduceSub,Int.reduceMul,Int.reduceLT,Int.reduceLE,Int.reduceEq,Int.reduceToNat,Int.reduceNeg,Nat.reduceEqDiff,Nat.reduceBEq,Nat.reduceLT,xAb,xAJ,xAa,xAx,xAy,xRk,xVe,hlt,ih]
theorem xPV (z z' : Bool) (l : List Nat) (hl : l.length < 1099511627776) : L.pcall 24 [sw z l,sw z' l] = some (.bool true) := by
 have h := fun s4 => xFz (z := z) (z' := z') (s4 := s4) (H := []) hl l.length 0 (by omega)
 simp only [Int.natCast_zero] at h
 rw [yGV,a24,xAu]
 simp (maxSteps := 30000000) (disch := first | assumption | omega | (simp only [WL,AV.isCell,xAb,xAa] <;> omega) | rfl | decide) only [↓reduceIte,WB,xAW,xAd,xAV,xAm,xAl,AV.cells,AV.isCell,xAc,xAi,xAj,xAz,xAA,xAB,xAC,xAD,xAE,xAX,xAF,xAG,xAn,xAH,xAo,xAp,xAI,xAq,xAr,xAk,Nat.reduceDiv,Nat.reduceMod,WP,xAT,xAM,xBm,xBl,xBk,xAP,xAS,xAN,W2,xAe,xAf,xAh,Nat.reduceAdd,Nat.reduceSub,Nat.reduceLeDiff,Nat.reduceMul,Int.reduceAdd,Int.reduceSub,Int.reduceMul,Int.reduceLT,Int.reduceLE,Int.reduceEq,Int.reduceToNat,Int.reduceNeg,Nat.reduceEqDiff,Nat.reduceBEq,Nat.reduceLT,xAb,xAJ,xAa,xAx,xAy,xVe,h]
def kOf : AV → Option Nat
 | .own _ k _ _ _ => some k
 | _ => none
structure Kept (v : AV) (G G' : Heap) : Prop where
 len : G'.length = G.length
 same : ∀ j : Nat,kOf v ≠ some j → G'[j]? = G[j]?
 lens : ∀ (j : Nat) (cs : List AV),G[j]? = some (.cells false false cs) → ∃ cs' : List AV,G'[j]? = some (.cells false false cs') ∧ cs'.length = cs.length
theorem Kept.refl (v : AV) (G : Heap) : Kept v G G := ⟨rfl,fun _ _ => rfl,fun _ cs h => ⟨cs,h,rfl⟩⟩
theorem xMv {G : Heap} {z : Bool} {k o n w : Nat} {B B' : List AV} (h : G[k]? = some (.cells false false B)) (hl : B'.length = B.length) : Kept (.own z k o n w) G (G.set k (.cells false false B')) where
 len := List.length_set
 same j hj := List.getElem?_set_ne fun e => hj (by rw [← e]; rfl)
 lens j cs hc := by
  by_cases e : k = j
  ·subst e
   rw [h] at hc
   cases hc
   exact ⟨B',by rw [List.getElem?_set_self (List.getElem?_eq_some_iff.1 h).1],hl⟩
  ·exact ⟨cs,by rw [List.getElem?_set_ne e]; exact hc,rfl⟩
def OwI (lo hi : Nat) (G : Heap) (v : AV) (w n : Nat) : Prop := (v = .sl true 0 [] ∧ n = 0) ∨ ∃ k cs,lo ≤ k ∧ k < hi ∧ v = .own false k 0 n w ∧ G[k]? = some (.cells false false cs) ∧ n * w ≤ cs.length
theorem OwI.kept {lo hi : Nat} {G G' : Heap} {v u : AV} {w n : Nat} (h : OwI lo hi G v w n) (hk : Kept u G G') : OwI lo hi G' v w n := by
 rcases h with h | ⟨k,cs,h1,h0,h2,h3,h4⟩
 ·exact .inl h
 ·obtain ⟨cs',h5,h6⟩ := hk.lens k cs h3
  exact .inr ⟨k,cs',h1,h0,h2,h5,by omega⟩
theorem OwI.app {lo hi : Nat} {G : Heap} {v : AV} {w n : Nat} (h : OwI lo hi G v w n) (X : Heap) : OwI lo hi (G ++ X) v w n := by
 rcases h with h | ⟨k,cs,h1,h0,h2,h3,h4⟩
 ·exact .inl h
 ·exact .inr ⟨k,cs,h1,h0,h2,xA8 h3,h4⟩
theorem OwI.kof {lo hi : Nat} {G : Heap} {v : AV} {w n j : Nat} (h : OwI lo hi G v w n) (hj : kOf v = some j) : lo ≤ j ∧ j < hi := by
 rcases h with ⟨rfl,_⟩ | ⟨k,cs,h1,h0,rfl,h3,h4⟩
 ·cases hj
 ·cases hj
  exact ⟨h1,h0⟩
theorem xXz {k n : Nat} (hn : n < 1099511627776) : ∀ d i B (G : Heap),i + d = n → n ≤ B.length → G[k]? = some (.cells false false B) →
  ∃ B' : List AV,B'.length = B.length ∧ L.loop xNw xYN ⟨xNx (.own false k 0 n 1) (.int .i64 (i : Nat)),G⟩ = some (.exit 0,⟨xNx (.own false k 0 n 1) (.int .i64 (n : Nat)),G.set k (.cells false false B')⟩)
 | 0,i,B,G,h,hB,hk => by
  obtain rfl : i = n := by omega
  refine ⟨B,rfl,?_⟩
  rw [xCo hk,xVg]
  simp (maxSteps := 30000000) (disch := first | assumption | omega | (simp only [WL,AV.isCell,xAb,xAa] <;> omega) | rfl | decide) only [↓reduceIte,WB,xAW,xAd,xAV,xAm,xAl,AV.cells,AV.isCell,xAc,xAi,xAj,xAz,xAA,xAB,xAC,xAD,xAE,xAX,xAF,xAG,xAn,xAH,xAo,xAp,xAI,xAq,xAr,xAk,Nat.reduceDiv,Nat.reduceMod,WP,xAT,xAM,xBm,xBl,xBk,xAP,xAS,xAN,W2,xAe,xAf,xAh,Nat.reduceAdd,Nat.reduceSub,Nat.reduceLeDiff,Nat.reduceMul,Int.reduceAdd,Int.reduceSub,Int.reduceMul,Int.reduceLT,Int.reduceLE,Int.reduceEq,Int.reduceToNat,Int.reduceNeg,Nat.reduceEqDiff,Nat.reduceBEq,Nat.reduceLT,xAb,xAJ,xAa,xAx,xAy,xNv,xRm]
 | d + 1,i,B,G,h,hB,hk => by
  have hlt : (i : Int) < (n : Nat) := by omega
  have hkl := (List.getElem?_eq_some_iff.1 hk).1
  have hl : (B.take i ++ .int .u64 77 :: B.drop (i + 1)).length = B.length := by simp only [List.length_append,List.length_take,List.length_cons,List.length_drop]; omega
  obtain ⟨B',h1,ih⟩ := xXz (k := k) hn d (i + 1) (B.take i ++ .int .u64 77 :: B.drop (i + 1)) (G.set k (.cells false false (B.take i ++ .int .u64 77 :: B.drop (i + 1)))) (by omega) (by omega) (by simp [hkl])
  rw [List.set_set] at ih
  refine ⟨B',by omega,?_⟩
  rw [xVg]
  simp (maxSteps := 30000000) (disch := first | assumption | omega | (simp only [WL,AV.isCell,xAb,xAa] <;> omega) | rfl | decide) only [↓reduceIte,WB,xAW,xAd,xAV,xAm,xAl,AV.cells,AV.isCell,xAc,xAi,xAj,xAz,xAA,xAB,xAC,xAD,xAE,xAX,xAF,xAG,xAn,xAH,xAo,xAp,xAI,xAq,xAr,xAk,Nat.reduceDiv,Nat.reduceMod,WP,xAT,xAM,xBm,xBl,xBk,xAP,xAS,xAN,W2,xAe,xAf,xAh,Nat.reduceAdd,Nat.reduceSub,Nat.reduceLeDiff,Nat.reduceMul,Int.reduceAdd,Int.reduceSub,Int.reduceMul,Int.reduceLT,Int.reduceLE,Int.reduceEq,Int.reduceToNat,Int.reduceNeg,Nat.reduceEqDiff,Nat.reduceBEq,Nat.reduceLT,xAb,xAJ,xAa,xAx,xAy,xNv,xRm,hlt,hk,ih]
theorem xXA {k n : Nat} (hn : n < 1099511627776) : ∀ d i B (G : Heap),i + d = n → n ≤ B.length → G[k]? = some (.cells false false B) →
  ∃ B' : List AV,B'.length = B.length ∧ L.loop xOb xY6 ⟨xOc (.own false k 0 n 1) (.int .i64 (i : Nat)),G⟩ = some (.exit 0,⟨xOc (.own false k 0 n 1) (.int .i64 (n : Nat)),G.set k (.cells false false B')⟩)
 | 0,i,B,G,h,hB,hk => by
  obtain rfl : i = n := by omega
  refine ⟨B,rfl,?_⟩
  rw [xCo hk,xVr]
  simp (maxSteps := 30000000) (disch := first | assumption | omega | (simp only [WL,AV.isCell,xAb,xAa] <;> omega) | rfl | decide) only [↓reduceIte,WB,xAW,xAd,xAV,xAm,xAl,AV.cells,AV.isCell,xAc,xAi,xAj,xAz,xAA,xAB,xAC,xAD,xAE,xAX,xAF,xAG,xAn,xAH,xAo,xAp,xAI,xAq,xAr,xAk,Nat.reduceDiv,Nat.reduceMod,WP,xAT,xAM,xBm,xBl,xBk,xAP,xAS,xAN,W2,xAe,xAf,xAh,Nat.reduceAdd,Nat.reduceSub,Nat.reduceLeDiff,Nat.reduceMul,Int.reduceAdd,Int.reduceSub,Int.reduceMul,Int.reduceLT,Int.reduceLE,Int.reduceEq,Int.reduceToNat,Int.reduceNeg,Nat.reduceEqDiff,Nat.reduceBEq,Nat.reduceLT,xAb,xAJ,xAa,xAx,xAy,xOa,xRy]
 | d + 1,i,B,G,h,hB,hk => by
  have hlt : (i : Int) < (n : Nat) := by omega
  have hkl := (List.getElem?_eq_some_iff.1 hk).1
  have hl : (B.take i ++ .int .i64 (-77) :: B.drop (i + 1)).length = B.length := by simp only [List.length_append,List.length_take,List.length_cons,List.length_drop]; omega
  obtain ⟨B',h1,ih⟩ := xXA (k := k) hn d (i + 1) (B.take i ++ .int .i64 (-77) :: B.drop (i + 1)) (G.set k (.cells false false (B.take i ++ .int .i64 (-77) :: B.drop (i + 1)))) (by omega) (by omega) (by simp [hkl])
  rw [List.set_set] at ih
  refine ⟨B',by omega,?_⟩
  rw [xVr]
  simp (maxSteps := 30000000) (disch := first | assumption | omega | (simp only [WL,AV.isCell,xAb,xAa] <;> omega) | rfl | decide) only [↓reduceIte,WB,xAW,xAd,xAV,xAm,xAl,AV.cells,AV.isCell,xAc,xAi,xAj,xAz,xAA,xAB,xAC,xAD,xAE,xAX,xAF,xAG,xAn,xAH,xAo,xAp,xAI,xAq,xAr,xAk,Nat.reduceDiv,Nat.reduceMod,WP,xAT,xAM,xBm,xBl,xBk,xAP,xAS,xAN,W2,xAe,xAf,xAh,Nat.reduceAdd,Nat.reduceSub,Nat.reduceLeDiff,Nat.reduceMul,Int.reduceAdd,Int.reduceSub,Int.reduceMul,Int.reduceLT,Int.reduceLE,Int.reduceEq,Int.reduceToNat,Int.reduceNeg,Nat.reduceEqDiff,Nat.reduceBEq,Nat.reduceLT,xAb,xAJ,xAa,xAx,xAy,xOa,xRy,hlt,hk,ih]
theorem xXB {k n : Nat} (hn : n < 1099511627776) : ∀ d i B (G : Heap),i + d = n → n * 5 ≤ B.length → G[k]? = some (.cells false false B) →
  ∃ B' : List AV,B'.length = B.length ∧ L.loop xOe xY7 ⟨xOf (.own false k 0 n 5) (.int .i64 (i : Nat)),G⟩ = some (.exit 0,⟨xOf (.own false k 0 n 5) (.int .i64 (n : Nat)),G.set k (.cells false false B')⟩)
 | 0,i,B,G,h,hB,hk => by
  obtain rfl : i = n := by omega
  refine ⟨B,rfl,?_⟩
  rw [xCo hk,xVs]
  simp (maxSteps := 30000000) (disch := first | assumption | omega | (simp only [WL,AV.isCell,xAb,xAa] <;> omega) | rfl | decide) only [↓reduceIte,WB,xAW,xAd,xAV,xAm,xAl,AV.cells,AV.isCell,xAc,xAi,xAj,xAz,xAA,xAB,xAC,xAD,xAE,xAX,xAF,xAG,xAn,xAH,xAo,xAp,xAI,xAq,xAr,xAk,Nat.reduceDiv,Nat.reduceMod,WP,xAT,xAM,xBm,xBl,xBk,xAP,xAS,xAN,W2,xAe,xAf,xAh,Nat.reduceAdd,Nat.reduceSub,Nat.reduceLeDiff,Nat.reduceMul,Int.reduceAdd,Int.reduceSub,Int.reduceMul,Int.reduceLT,Int.reduceLE,Int.reduceEq,Int.reduceToNat,Int.reduceNeg,Nat.reduceEqDiff,Nat.reduceBEq,Nat.reduceLT,xAb,xAJ,xAa,xAx,xAy,xOd,xRz]
 | d + 1,i,B,G,h,hB,hk => by
  have hlt : (i : Int) < (n : Nat) := by omega
  have hkl := (List.getElem?_eq_some_iff.1 hk).1
  have hle : i * 5 + 5 ≤ B.length := by omega
  have hl : (B.take (i * 5) ++ (([.int .i64 0,.int .i64 0,.int .i64 (-7),.int .u8 0,.int .u8 0] : List AV) ++ B.drop (i * 5 + 5))).length = B.length := by simp only [List.length_append,List.length_take,List.length_cons,List.length_drop,List.length_nil]; omega
  obtain ⟨B',h1,ih⟩ := xXB (k := k) hn d (i + 1) (B.take (i * 5) ++ (([.int .i64 0,.int .i64 0,.int .i64 (-7),.int .u8 0,.int .u8 0] : List AV) ++ B.drop (i * 5 + 5))) (G.set k (.cells false false (B.take (i * 5) ++ (([.int .i64 0,.int .i64 0,.int .i64 (-7),.int .u8 0,.int .u8 0] : List AV) ++ B.drop (i * 5 + 5))))) (by omega) (by omega) (by simp [hkl])
  rw [List.set_set] at ih
  simp only [List.cons_append,List.nil_append] at ih
  refine ⟨B',by omega,?_⟩
  rw [xVs]
  simp (maxSteps := 30000000) (disch := first | assumption | omega | (simp only [WL,AV.isCell,xAb,xAa] <;> omega) | rfl | decide) only [↓reduceIte,WB,xAW,xAd,xAV,xAm,xAl,AV.cells,AV.isCell,xAc,xAi,xAj,xAz,xAA,xAB,xAC,xAD,xAE,xAX,xAF,xAG,xAn,xAH,xAo,xAp,xAI,xAq,xAr,xAk,Nat.reduceDiv,Nat.reduceMod,WP,xAT,xAM,xBm,xBl,xBk,xAP,xAS,xAN,W2,xAe,xAf,xAh,Nat.reduceAdd,Nat.reduceSub,Nat.reduceLeDiff,Nat.reduceMul,Int.reduceAdd,Int.reduceSub,Int.reduceMul,Int.reduceLT,Int.reduceLE,Int.reduceEq,Int.reduceToNat,Int.reduceNeg,Nat.reduceEqDiff,Nat.reduceBEq,Nat.reduceLT,xAb,xAJ,xAa,xAx,xAy,xOd,xRz,hlt,hk,hle,ih]
theorem xXC {lo hi n : Nat} {G : Heap} {v : AV} (h : OwI lo hi G v 1 n) (hn : n < 1000000) : ∃ G',L.icall (.func 27 []) [v] G = some (.tup [],G') ∧ Kept v G G' := by
 rcases h with ⟨rfl,_⟩ | ⟨k,cs,h1,h0,rfl,h3,h4⟩
 ·refine ⟨G,?_,Kept.refl _ _⟩
  rw [yFW,a27,xBf]
  simp (maxSteps := 30000000) (disch := first | assumption | omega | (simp only [WL,AV.isCell,xAb,xAa] <;> omega) | rfl | decide) only [↓reduceIte,WB,xAW,xAd,xAV,xAm,xAl,AV.cells,AV.isCell,xAc,xAi,xAj,xAz,xAA,xAB,xAC,xAD,xAE,xAX,xAF,xAG,xAn,xAH,xAo,xAp,xAI,xAq,xAr,xAk,Nat.reduceDiv,Nat.reduceMod,WP,xAT,xAM,xBm,xBl,xBk,xAP,xAS,xAN,W2,xAe,xAf,xAh,Nat.reduceAdd,Nat.reduceSub,Nat.reduceLeDiff,Nat.reduceMul,Int.reduceAdd,Int.reduceSub,Int.reduceMul,Int.reduceLT,Int.reduceLE,Int.reduceEq,Int.reduceToNat,Int.reduceNeg,Nat.reduceEqDiff,Nat.reduceBEq,Nat.reduceLT,xAb,xAJ,xAa,xAx,xAy,xRm,xVg,xNv]
 ·obtain ⟨B',h5,h6⟩ := xXz (k := k) (n := n) (by omega) n 0 cs G (by omega) (by omega) h3
  simp only [Int.natCast_zero] at h6
  refine ⟨_,?_,xMv h3 h5⟩
  rw [yFW,a27,xBf]
  simp (maxSteps := 30000000) (disch := first | assumption | omega | (simp only [WL,AV.isCell,xAb,xAa] <;> omega) | rfl | decide) only [↓reduceIte,WB,xAW,xAd,xAV,xAm,xAl,AV.cells,AV.isCell,xAc,xAi,xAj,xAz,xAA,xAB,xAC,xAD,xAE,xAX,xAF,xAG,xAn,xAH,xAo,xAp,xAI,xAq,xAr,xAk,Nat.reduceDiv,Nat.reduceMod,WP,xAT,xAM,xBm,xBl,xBk,xAP,xAS,xAN,W2,xAe,xAf,xAh,Nat.reduceAdd,Nat.reduceSub,Nat.reduceLeDiff,Nat.reduceMul,Int.reduceAdd,Int.reduceSub,Int.reduceMul,Int.reduceLT,Int.reduceLE,Int.reduceEq,Int.reduceToNat,Int.reduceNeg,Nat.reduceEqDiff,Nat.reduceBEq,Nat.reduceLT,xAb,xAJ,xAa,xAx,xAy,xRm,h6]
theorem xXD {lo hi n : Nat} {G : Heap} {v : AV} (h : OwI lo hi G v 1 n) (hn : n < 1000000) : ∃ G',L.icall (.func 62 []) [v] G = some (.tup [],G') ∧ Kept v G G' := by
 rcases h with ⟨rfl,_⟩ | ⟨k,cs,h1,h0,rfl,h3,h4⟩
 ·refine ⟨G,?_,Kept.refl _ _⟩
  rw [yF2,a62,xBf]
  simp (maxSteps := 30000000) (disch := first | assumption | omega | (simp only [WL,AV.isCell,xAb,xAa] <;> omega) | rfl | decide) only [↓reduceIte,WB,xAW,xAd,xAV,xAm,xAl,AV.cells,AV.isCell,xAc,xAi,xAj,xAz,xAA,xAB,xAC,xAD,xAE,xAX,xAF,xAG,xAn,xAH,xAo,xAp,xAI,xAq,xAr,xAk,Nat.reduceDiv,Nat.reduceMod,WP,xAT,xAM,xBm,xBl,xBk,xAP,xAS,xAN,W2,xAe,xAf,xAh,Nat.reduceAdd,Nat.reduceSub,Nat.reduceLeDiff,Nat.reduceMul,Int.reduceAdd,Int.reduceSub,Int.reduceMul,Int.reduceLT,Int.reduceLE,Int.reduceEq,Int.reduceToNat,Int.reduceNeg,Nat.reduceEqDiff,Nat.reduceBEq,Nat.reduceLT,xAb,xAJ,xAa,xAx,xAy,xRy,xVr,xOa]
 ·obtain ⟨B',h5,h6⟩ := xXA (k := k) (n := n) (by omega) n 0 cs G (by omega) (by omega) h3
  simp only [Int.natCast_zero] at h6
  refine ⟨_,?_,xMv h3 h5⟩
  rw [yF2,a62,xBf]
  simp (maxSteps := 30000000) (disch := first | assumption | omega | (simp only [WL,AV.isCell,xAb,xAa] <;> omega) | rfl | decide) only [↓reduceIte,WB,xAW,xAd,xAV,xAm,xAl,AV.cells,AV.isCell,xAc,xAi,xAj,xAz,xAA,xAB,xAC,xAD,xAE,xAX,xAF,xAG,xAn,xAH,xAo,xAp,xAI,xAq,xAr,xAk,Nat.reduceDiv,Nat.reduceMod,WP,xAT,xAM,xBm,xBl,xBk,xAP,xAS,xAN,W2,xAe,xAf,xAh,Nat.reduceAdd,Nat.reduceSub,Nat.reduceLeDiff,Nat.reduceMul,Int.reduceAdd,Int.reduceSub,Int.reduceMul,Int.reduceLT,Int.reduceLE,Int.reduceEq,Int.reduceToNat,Int.reduceNeg,Nat.reduceEqDiff,Nat.reduceBEq,Nat.reduceLT,xAb,xAJ,xAa,xAx,xAy,xRy,h6]
theorem yCZ {lo hi n : Nat} {G : Heap} {v : AV} (h : OwI lo hi G v 5 n) (hn : n < 1000000) : ∃ G',L.icall (.func 63 []) [v] G = some (.tup [],G') ∧ Kept v G G' := by
 rcases h with ⟨rfl,_⟩ | ⟨k,cs,h1,h0,rfl,h3,h4⟩
 ·refine ⟨G,?_,Kept.refl _ _⟩
  rw [yF3,a63,xBf]
  simp (maxSteps := 30000000) (disch := first | assumption | omega | (simp only [WL,AV.isCell,xAb,xAa] <;> omega) | rfl | decide) only [↓reduceIte,WB,xAW,xAd,xAV,xAm,xAl,AV.cells,AV.isCell,xAc,xAi,xAj,xAz,xAA,xAB,xAC,xAD,xAE,xAX,xAF,xAG,xAn,xAH,xAo,xAp,xAI,xAq,xAr,xAk,Nat.reduceDiv,Nat.reduceMod,WP,xAT,xAM,xBm,xBl,xBk,xAP,xAS,xAN,W2,xAe,xAf,xAh,Nat.reduceAdd,Nat.reduceSub,Nat.reduceLeDiff,Nat.reduceMul,Int.reduceAdd,Int.reduceSub,Int.reduceMul,Int.reduceLT,Int.reduceLE,Int.reduceEq,Int.reduceToNat,Int.reduceNeg,Nat.reduceEqDiff,Nat.reduceBEq,Nat.reduceLT,xAb,xAJ,xAa,xAx,xAy,xRz,xVs,xOd]
 ·obtain ⟨B',h5,h6⟩ := xXB (k := k) (n := n) (by omega) n 0 cs G (by omega) (by omega) h3
  simp only [Int.natCast_zero] at h6
  refine ⟨_,?_,xMv h3 h5⟩
  rw [yF3,a63,xBf]
  simp (maxSteps := 30000000) (disch := first | assumption | omega | (simp only [WL,AV.isCell,xAb,xAa] <;> omega) | rfl | decide) only [↓reduceIte,WB,xAW,xAd,xAV,xAm,xAl,AV.cells,AV.isCell,xAc,xAi,xAj,xAz,xAA,xAB,xAC,xAD,xAE,xAX,xAF,xAG,xAn,xAH,xAo,xAp,xAI,xAq,xAr,xAk,Nat.reduceDiv,Nat.reduceMod,WP,xAT,xAM,xBm,xBl,xBk,xAP,xAS,xAN,W2,xAe,xAf,xAh,Nat.reduceAdd,Nat.reduceSub,Nat.reduceLeDiff,Nat.reduceMul,Int.reduceAdd,Int.reduceSub,Int.reduceMul,Int.reduceLT,Int.reduceLE,Int.reduceEq,Int.reduceToNat,Int.reduceNeg,Nat.reduceEqDiff,Nat.reduceBEq,Nat.reduceLT,xAb,xAJ,xAa,xAx,xAy,xRz,h6]
structure Stay (lo hi : Nat) (G G' : Heap) : Prop where
 len : G.length ≤ G'.length
 same : ∀ j : Nat,j < G.length → (j < lo ∨ hi ≤ j) → G'[j]? = G[j]?
 lens : ∀ (j : Nat) (cs : List AV),G[j]? = some (.cells false false cs) → ∃ cs' : List AV,G'[j]? = some (.cells false false cs') ∧ cs'.length = cs.length
theorem OwI.stay {lo hi : Nat} {G G' : Heap} {v : AV} {w n : Nat} (h : OwI lo hi G v w n) {lo' hi' : Nat} (hk : Stay lo' hi' G G') : OwI lo hi G' v w n := by
 rcases h with h | ⟨k,cs,h1,h0,h2,h3,h4⟩
 ·exact .inl h
 ·obtain ⟨cs',h5,h6⟩ := hk.lens k cs h3
  exact .inr ⟨k,cs',h1,h0,h2,h5,by omega⟩
theorem Kept.stay {lo hi n w : Nat} {G G' : Heap} {v : AV} (h : Kept v G G') (hv : OwI lo hi G v w n) : Stay lo hi G G' where
 len := by rw [h.len]; exact Nat.le_refl _
 same j _ hj := h.same j fun e => by have := hv.kof e; omega
 lens := h.lens
theorem OwI.cell {lo hi : Nat} {G : Heap} {v : AV} {w n : Nat} (h : OwI lo hi G v w n) : v.isCell = true := by
 rcases h with ⟨rfl,_⟩ | ⟨k,_,_,_,rfl,_⟩ <;> rfl
theorem Stay.get {lo hi j : Nat} {G G' : Heap} {x : Blk} (h : Stay lo hi G G') (hj : j < lo ∨ hi ≤ j) (hg : G[j]? = some x) : G'[j]? = some x := (h.same j (List.getElem?_eq_some_iff.1 hg).1 hj).trans hg
set_option maxHeartbeats 4000000 in
theorem yC0 {lo hi n1 n2 n3 : Nat} {G : Heap} {x y f1 f2 f3 : AV} (hx : x.isCell = true) (hy : y.isCell = true) (h1 : OwI lo hi G f1 1 n1) (h2 : OwI lo hi G f2 1 n2) (h3 : OwI lo hi G f3 5 n3) (l1 : n1 < 1000000) (l2 : n2 < 1000000) (l3 : n3 < 1000000) (hb : hi ≤ G.length) :
  ∃ G',L.icall (.func 28 []) [.agg [x,y,f1,f2,f3]] G = some (.tup [],G') ∧ Stay lo hi G G' := by
 have hcell : [x,y,f1,f2,f3].all AV.isCell = true := by
  simp only [List.all_cons,List.all_nil,hx,hy,h1.cell,h2.cell,h3.cell]; rfl
 have p0 : (G ++ [Blk.cells false false [x,y,f1,f2,f3]])[G.length]? = some (.cells false false [x,y,f1,f2,f3]) := List.getElem?_concat_length
 have q1 := h1.app [Blk.cells false false [x,y,f1,f2,f3]]
 have q2 := h2.app [Blk.cells false false [x,y,f1,f2,f3]]
 have q3 := h3.app [Blk.cells false false [x,y,f1,f2,f3]]
 obtain ⟨G1,e1,k1⟩ := xXD q1 l1
 have s1 := k1.stay q1
 have p1 := s1.get (.inr hb) p0
 obtain ⟨G2,e2,k2⟩ := xXD (q2.kept k1) l2
 have s2 := k2.stay (q2.kept k1)
 have p2 := s2.get (.inr hb) p1
 obtain ⟨G3,e3,k3⟩ := yCZ ((q3.kept k1).kept k2) l3
 have s3 := k3.stay ((q3.kept k1).kept k2)
 have hst : Stay lo hi G G3 := by
  have hl1 := k1.len
  have hl2 := k2.len
  have hl3 := k3.len
  simp only [List.length_append,List.length_cons,List.length_nil] at hl1
  refine ⟨by omega,fun j hj hlo => ?_,fun j cs hj => ?_⟩
  ·rw [s3.same j (by omega) hlo,s2.same j (by omega) hlo,s1.same j (by simp; omega) hlo,List.getElem?_append_left hj]
  ·obtain ⟨c1,g1,m1⟩ := k1.lens j cs (xA8 hj)
   obtain ⟨c2,g2,m2⟩ := k2.lens j c1 g1
   obtain ⟨c3,g3,m3⟩ := k3.lens j c2 g2
   exact ⟨c3,g3,by omega⟩
 refine ⟨G3,?_,hst⟩
 rw [yGY,a28,xBf]
 simp (maxSteps := 30000000) (disch := first | assumption | omega | (simp only [WL,AV.isCell,xAb,xAa] <;> omega) | rfl | decide) only [↓reduceIte,WB,xAW,xAd,xAV,xAm,xAl,AV.cells,AV.isCell,xAc,xAi,xAj,xAz,xAA,xAB,xAC,xAD,xAE,xAX,xAF,xAG,xAn,xAH,xAo,xAp,xAI,xAq,xAr,xAk,Nat.reduceDiv,Nat.reduceMod,WP,xAT,xAM,xBm,xBl,xBk,xAP,xAS,xAN,W2,xAe,xAf,xAh,Nat.reduceAdd,Nat.reduceSub,Nat.reduceLeDiff,Nat.reduceMul,Int.reduceAdd,Int.reduceSub,Int.reduceMul,Int.reduceLT,Int.reduceLE,Int.reduceEq,Int.reduceToNat,Int.reduceNeg,Nat.reduceEqDiff,Nat.reduceBEq,Nat.reduceLT,xAb,xAJ,xAa,xAx,xAy,hcell,p0,p1,p2,e1,e2,e3]
set_option maxRecDepth 20000 in
set_option maxHeartbeats 8000000 in
theorem xUe {m0 m1 n0 n1 : Int} {zm1 zm2 zm3 zn1 zn2 zn3 : Bool} {nm1 nm2 nm3 nn1 nn2 nn3 : Nat} {cm1 cm2 cm3 cn1 cn2 cn3 : List AV} {zt z1 : Bool} {t tr : List Lf}
  {G B1 B2 B3 Bl3 G1 G2 G3 G4 G5 G6 G7 G8 : Heap} {zq zp zc1 zc2 zc3 : Bool} {nq np nc1 nc2 nc3 : Nat} {kq kp kc1 kc2 kc3 : List AV}
  {u1 w1 k1 u2 w2 k2 t1 t2 t3 y1 y2 y3 a1 a2 a3 : AV} {e f g r c0 c1 : Int} {bb : Bool}
  (htr : List.take (tr.length * 3) (lfs t) = lfs tr) (htm : min ((t.length : Nat) : Int) 40 = (tr.length : Nat)) (htt : tr.length ≤ t.length)
  (hr : r < 2) (hr0 : 0 ≤ r)
  (h12 : L.pcall 12 [.agg [.int .i64 n0,.int .i64 n1,.sl zn1 nn1 cn1,.sl zn2 nn2 cn2,.sl zn3 nn3 cn3]] = some (.agg [.int .i64 m0,.int .i64 m1,.sl zm1 nm1 cm1,.sl zm2 nm2 cm2,.sl zm3 nm3 cm3]))
  (h16 : xBB L 16 [.agg [.int .i64 m0,.int .i64 m1,.sl zm1 nm1 cm1,.sl zm2 nm2 cm2,.sl zm3 nm3 cm3],(.sl z1 tr.length (lfs tr))] = some (.tup [u1,.int .i64 e],B1)) (h17 : L.pcall 17 [.agg [.int .i64 m0,.int .i64 m1,.sl zm1 nm1 cm1,.sl zm2 nm2 cm2,.sl zm3 nm3 cm3],(.sl z1 tr.length (lfs tr))] = some (.tup [.sl zq nq kq,.int .i64 e]))
  (h18 : L.pcall 18 [.agg [.int .i64 m0,.int .i64 m1,.sl zm1 nm1 cm1,.sl zm2 nm2 cm2,.sl zm3 nm3 cm3],(.sl z1 tr.length (lfs tr))] = some (.tup [.bool bb,.int .i64 e])) (h19 : L.pcall 19 [.agg [.int .i64 m0,.int .i64 m1,.sl zm1 nm1 cm1,.sl zm2 nm2 cm2,.sl zm3 nm3 cm3],(.sl z1 tr.length (lfs tr))] = some (.tup [.bool bb,.int .i64 e]))
  (h20 : xBB L 20 [.agg [.int .i64 m0,.int .i64 m1,.sl zm1 nm1 cm1,.sl zm2 nm2 cm2,.sl zm3 nm3 cm3]] = some (.tup [u2,.int .i64 f],B2)) (h21 : L.pcall 21 [.agg [.int .i64 m0,.int .i64 m1,.sl zm1 nm1 cm1,.sl zm2 nm2 cm2,.sl zm3 nm3 cm3]] = some (.tup [.sl zp np kp,.int .i64 f]))
  (h22 : xDb L 22 [.agg [.int .i64 m0,.int .i64 m1,.sl zm1 nm1 cm1,.sl zm2 nm2 cm2,.sl zm3 nm3 cm3]] = some (.tup [.agg [.int .i64 c0,.int .i64 c1,t1,t2,t3],.int .i64 g],B3)) (h23 : L.pcall 23 [.agg [.int .i64 m0,.int .i64 m1,.sl zm1 nm1 cm1,.sl zm2 nm2 cm2,.sl zm3 nm3 cm3]] = some (.tup [.agg [.int .i64 c0,.int .i64 c1,.sl zc1 nc1 kc1,.sl zc2 nc2 kc2,.sl zc3 nc3 kc3],.int .i64 g]))
  (sa : L.pcall 24 [k1,.sl zq nq kq] = some (.bool true)) (sb : L.pcall 24 [k2,.sl zp np kp] = some (.bool true))
  (sc : L.pcall 25 [.agg [.int .i64 c0,.int .i64 c1,a1,a2,a3],.agg [.int .i64 c0,.int .i64 c1,.sl zc1 nc1 kc1,.sl zc2 nc2 kc2,.sl zc3 nc3 kc3]] = some (.bool true))
  (sm : L.pcall 25 [.agg [.int .i64 m0,.int .i64 m1,.sl zm1 nm1 cm1,.sl zm2 nm2 cm2,.sl zm3 nm3 cm3],.agg [.int .i64 m0,.int .i64 m1,.sl zm1 nm1 cm1,.sl zm2 nm2 cm2,.sl zm3 nm3 cm3]] = some (.bool true)) (st : L.pcall 26 [(.sl z1 tr.length (lfs tr)),.sl zt tr.length (lfs tr)] = some (.bool true))
  (g1 : xAS G.length u1 = w1) (e1 : G ++ B1 = G1) (g2 : xAS G1.length u2 = w2) (e2 : G1 ++ B2 = G2)
  (g3 : xAN G2.length t1 = y1) (g4 : xAN G2.length t2 = y2) (g5 : xAN G2.length t3 = y3) (l3 : B3.map (xC4 G2.length) = Bl3) (e3 : G2 ++ Bl3 = G3)
  (e4 : G3 ++ [Blk.cells false false [.int .i64 c0,.int .i64 c1,y1,y2,y3]] = G4) (e5 : G4 ++ [Blk.cells false false [.int .i64 c0,.int .i64 c1,.sl zc1 nc1 kc1,.sl zc2 nc2 kc2,.sl zc3 nc3 kc3]] = G5)
  (j1 : ([AV.int .i64 c0,.int .i64 c1,y1,y2,y3]).all AV.isCell = true)
  (b0 : G[1]? = some (Blk.cells false false [.int .i64 m0,.int .i64 m1,.sl zm1 nm1 cm1,.sl zm2 nm2 cm2,.sl zm3 nm3 cm3])) (b1 : G1[1]? = some (Blk.cells false false [.int .i64 m0,.int .i64 m1,.sl zm1 nm1 cm1,.sl zm2 nm2 cm2,.sl zm3 nm3 cm3])) (b2 : G2[1]? = some (Blk.cells false false [.int .i64 m0,.int .i64 m1,.sl zm1 nm1 cm1,.sl zm2 nm2 cm2,.sl zm3 nm3 cm3])) (b4 : G4[1]? = some (Blk.cells false false [.int .i64 m0,.int .i64 m1,.sl zm1 nm1 cm1,.sl zm2 nm2 cm2,.sl zm3 nm3 cm3])) (b5 : G5[1]? = some (Blk.cells false false [.int .i64 m0,.int .i64 m1,.sl zm1 nm1 cm1,.sl zm2 nm2 cm2,.sl zm3 nm3 cm3])) (b50 : G5[0]? = some (Blk.cells false false [.int .i64 n0,.int .i64 n1,.sl zn1 nn1 cn1,.sl zn2 nn2 cn2,.sl zn3 nn3 cn3]))
  (z3 : G5[G3.length]? = some (Blk.cells false false [.int .i64 c0,.int .i64 c1,y1,y2,y3])) (z4 : G5[G4.length]? = some (Blk.cells false false [.int .i64 c0,.int .i64 c1,.sl zc1 nc1 kc1,.sl zc2 nc2 kc2,.sl zc3 nc3 kc3]))
  (f1 : frz 6 G5 w1 = some k1) (f2 : frz 6 G5 w2 = some k2) (fy1 : frz 5 G5 y1 = some a1) (fy2 : frz 5 G5 y2 = some a2) (fy3 : frz 5 G5 y3 = some a3)
  (i1 : L.icall (.func 27 []) [w1] G5 = some (.tup [],G6)) (i2 : L.icall (.func 27 []) [w2] G6 = some (.tup [],G7))
  (z7 : G7[G3.length]? = some (Blk.cells false false [.int .i64 c0,.int .i64 c1,y1,y2,y3])) (i3 : L.icall (.func 28 []) [.agg [.int .i64 c0,.int .i64 c1,y1,y2,y3]] G7 = some (.tup [],G8)) :
  L.loop xIe xX7 ⟨xIf (.sl zt t.length (lfs t)) (.ptr 0 0) (.bool false) (.ptr 1 0) (.sl z1 tr.length (lfs tr)) (.int .i64 r),G⟩ = L.loop xIe xX7 ⟨xIf (.sl zt t.length (lfs t)) (.ptr 0 0) (.bool false) (.ptr 1 0) (.sl z1 tr.length (lfs tr)) (.int .i64 (r + 1)),G8⟩ := by
 have hw : IntKind.i64.wrap (r + 1) = r + 1 := by have : r = 0 ∨ r = 1 := by omega
                                                  rcases this with rfl | rfl <;> rfl
 rw [yDt]
 simp (maxSteps := 30000000) (disch := first | assumption | omega | (simp only [WL,AV.isCell,xAb,xAa] <;> omega) | rfl | decide) only [↓reduceIte,WB,xAW,xAd,xAV,xAm,xAl,AV.cells,AV.isCell,xAc,xAz,xAA,xAB,xAC,xAD,xAE,xAX,xAF,xAG,xAn,xAH,xAo,xAp,xAI,xAq,xAr,xAk,Nat.reduceDiv,Nat.reduceMod,WP,xAT,xAM,xBm,xBl,xBk,W2,xAe,xAf,xAh,Nat.reduceAdd,Nat.reduceSub,Nat.reduceLeDiff,Nat.reduceMul,Int.reduceAdd,Int.reduceSub,Int.reduceMul,Int.reduceLT,Int.reduceLE,Int.reduceEq,Int.reduceToNat,Int.reduceNeg,Nat.reduceEqDiff,Nat.reduceBEq,Nat.reduceLT,xE4,xC5,xE5,xJM,xJN,xJO,xE9,xAb,xAQ,xAR,xYD,yBP,hw,hr,htr,htm,htt,h12,h16,h17,h18,h19,h20,h21,h22,h23,sa,sb,sc,sm,st,g1,g2,g3,g4,g5,e1,e2,e3,e4,e5,l3,j1,b0,b1,b2,b4,b5,b50,z3,z4,f1,f2,fy1,fy2,fy3,i1,i2,z7,i3]
theorem OwF.frzL {G : Heap} {v : AV} {w n : Nat} {cs : List AV} (h : OwF G v w n cs) (hf : ∀ d H,cs.mapM (frz d H) = some cs) : ∃ z,∀ d,frz (d + 1) G v = some (.sl z n cs) := by
 rcases h with ⟨rfl,rfl,rfl⟩ | ⟨k,rfl,hg,hl⟩
 ·exact ⟨true,fun d => rfl⟩
 ·refine ⟨false,fun d => ?_⟩
  simp only [frz,hg]
  rw [if_pos (by omega),List.drop_zero,List.take_of_length_le (by omega),hf]
  rfl
theorem OwF.put {H B T' : Heap} {v : AV} {w n : Nat} {cs : List AV} (h : OwF B v w n cs) (hp : Plain cs) (hf : ∀ d H,cs.mapM (frz d H) = some cs) :
  OwI H.length (H.length + B.length) (H ++ (B.map (xC4 H.length) ++ T')) (xAN H.length v) w n ∧ ∃ z,∀ d,frz (d + 1) (H ++ (B.map (xC4 H.length) ++ T')) (xAN H.length v) = some (.sl z n cs) := by
 have hG : ∀ (k : Nat) (x : Blk),k < B.length → (B.map (xC4 H.length))[k]? = some x → (H ++ (B.map (xC4 H.length) ++ T'))[H.length + k]? = some x := fun k x hk hx => by
  rw [List.getElem?_append_right (by omega),Nat.add_sub_cancel_left,List.getElem?_append_left (by simpa using hk)]; exact hx
 have h' := h.lift3 hp hG
 refine ⟨?_,h'.frzL hf⟩
 rcases h with ⟨rfl,h1,h2⟩ | ⟨k,rfl,hg,hl⟩
 ·exact .inl ⟨rfl,h1⟩
 ·have := (List.getElem?_eq_some_iff.1 hg).1
  rcases h' with ⟨q,_⟩ | ⟨k',q,g1,g2⟩
  ·cases q
  ·cases q
   exact .inr ⟨H.length + k,cs,by omega,by omega,rfl,g1,by omega⟩
theorem OwnS.put {H B T' : Heap} {u : AV} {r : List Nat} (h : OwnS u B r) :
  OwI H.length (H.length + B.length) (H ++ (B ++ T')) (xAS H.length u) 1 r.length ∧ ∃ z,∀ d,frz (d + 1) (H ++ (B ++ T')) (xAS H.length u) = some (sw z r) := by
 rcases h with ⟨rfl,rfl,rfl⟩ | ⟨x,rfl,rfl⟩
 ·exact ⟨.inl ⟨rfl,rfl⟩,true,fun d => rfl⟩
 ·have hg : (H ++ ([Blk.cells false false (w64 (r ++ x))] ++ T'))[H.length + 0]? = some (Blk.cells false false (w64 (r ++ x))) := by
   rw [List.getElem?_append_right (by omega),Nat.add_sub_cancel_left]; rfl
  have hl : (w64 (r ++ x)).length = r.length + x.length := by rw [xCX,List.length_append]
  refine ⟨.inr ⟨H.length + 0,_,by omega,by simp,rfl,hg,by omega⟩,false,fun d => ?_⟩
  show frz (d + 1) _ (.own false (H.length + 0) 0 r.length 1) = _
  have ht : ((w64 (r ++ x)).drop 0).take (r.length * 1) = w64 r := by rw [List.drop_zero,Nat.mul_one,← xQN,List.take_left' (xCX r)]
  simp only [frz,hg]
  rw [if_pos (by omega),ht,xMu]
  rfl
theorem xUf {p x q R : Heap} (h : p ++ x = q) (e : ∃ T,R = q ++ T) : ∃ T,R = p ++ (x ++ T) := by
 subst h; obtain ⟨T,rfl⟩ := e
 exact ⟨T,List.append_assoc ..⟩
theorem xXE {p x q R : Heap} (h : p ++ x = q) (e : ∃ T,R = q ++ T) : ∃ T,R = p ++ T := by
 obtain ⟨T,h⟩ := xUf h e; exact ⟨_,h⟩
theorem yBj {p q R : Heap} {x : Blk} (h : p ++ [x] = q) (e : ∃ T,R = q ++ T) : R[p.length]? = some x := by
 subst h; obtain ⟨T,rfl⟩ := e
 rw [List.append_assoc,List.getElem?_append_right (Nat.le_refl _),Nat.sub_self]; rfl
theorem yBk {p R : Heap} {i : Nat} {x : Blk} (e : ∃ T,R = p ++ T) (h : p[i]? = some x) : R[i]? = some x := by
 obtain ⟨T,rfl⟩ := e; exact xA8 h
theorem yHq {x y : Int} {p q r : AV} (h1 : AV.isCell p = true) (h2 : AV.isCell q = true) (h3 : AV.isCell r = true) : ([AV.int .i64 x,.int .i64 y,p,q,r]).all AV.isCell = true := by
 simp only [List.all_cons,List.all_nil,h1,h2,h3,Bool.and_true]; rfl
structure Lw (n m : Aut) (G : Heap) : Prop where
 b0 : G[0]? = some (.cells false false n.cells)
 b1 : G[1]? = some (.cells false false m.cells)
theorem Lw.ext {n m : Aut} {G R : Heap} (h : Lw n m G) (e : ∃ T,R = G ++ T) : Lw n m R := ⟨yBk e h.b0,yBk e h.b1⟩
theorem Lw.stay {n m : Aut} {G R : Heap} {lo hi : Nat} (h : Lw n m G) (e : Stay lo hi G R) (hl : 1 < lo) : Lw n m R := ⟨e.get (.inl (by omega)) h.b0,e.get (.inl (by omega)) h.b1⟩
set_option maxHeartbeats 4000000 in
theorem xZN {n m X : Aut} {zt z1 : Bool} {t tr : List Lf} {G B1 B2 B3 : Heap} {u1 u2 vt : AV} {ra rb : List Nat} {e f g r : Int} {zq zp : Bool} {bb : Bool}
  (htr : List.take (tr.length * 3) (lfs t) = lfs tr) (htm : min ((t.length : Nat) : Int) 40 = (tr.length : Nat)) (htt : tr.length ≤ t.length)
  (hr : r < 2) (hr0 : 0 ≤ r) (hI : Lw n m G) (h12 : L.pcall 12 [n.av] = some m.av)
  (h16 : xBB L 16 [m.av,tw z1 tr] = some (.tup [u1,.int .i64 e],B1)) (O1 : OwnS u1 B1 ra) (l1 : ra.length ≤ 64) (h17 : L.pcall 17 [m.av,tw z1 tr] = some (.tup [sw zq ra,.int .i64 e]))
  (h18 : L.pcall 18 [m.av,tw z1 tr] = some (.tup [.bool bb,.int .i64 e])) (h19 : L.pcall 19 [m.av,tw z1 tr] = some (.tup [.bool bb,.int .i64 e]))
  (h20 : xBB L 20 [m.av] = some (.tup [u2,.int .i64 f],B2)) (O2 : OwnS u2 B2 rb) (l2 : rb.length ≤ 64) (h21 : L.pcall 21 [m.av] = some (.tup [sw zp rb,.int .i64 f]))
  (h22 : xDb L 22 [m.av] = some (.tup [vt,.int .i64 g],B3)) (O3 : OwA B3 vt X.vars X.states X.st X.fi X.rl) (h23 : L.pcall 23 [m.av] = some (.tup [X.av,.int .i64 g]))
  (x1 : X.st.length < 1000000) (x2 : X.fi.length < 1000000) (x3 : X.rl.length < 1000000)
  (sm : L.pcall 25 [m.av,m.av] = some (.bool true)) :
  ∃ G',L.loop xIe xX7 ⟨xIf (.sl zt t.length (lfs t)) (.ptr 0 0) (.bool false) (.ptr 1 0) (.sl z1 tr.length (lfs tr)) (.int .i64 r),G⟩ = L.loop xIe xX7 ⟨xIf (.sl zt t.length (lfs t)) (.ptr 0 0) (.bool false) (.ptr 1 0) (.sl z1 tr.length (lfs tr)) (.int .i64 (r + 1)),G'⟩ ∧ Lw n m G' := by
 obtain ⟨t1,t2,t3,rfl,ot1,ot2,ot3⟩ := O3
 obtain ⟨w1,g1⟩ : ∃ X,xAS G.length u1 = X := ⟨_,rfl⟩
 obtain ⟨G1,e1⟩ : ∃ X,G ++ B1 = X := ⟨_,rfl⟩
 obtain ⟨w2,g2⟩ : ∃ X,xAS G1.length u2 = X := ⟨_,rfl⟩
 obtain ⟨G2,e2⟩ : ∃ X,G1 ++ B2 = X := ⟨_,rfl⟩
 obtain ⟨Bl3,l3⟩ : ∃ X,B3.map (xC4 G2.length) = X := ⟨_,rfl⟩
 obtain ⟨G3,e3⟩ : ∃ X,G2 ++ Bl3 = X := ⟨_,rfl⟩
 obtain ⟨y1,g3⟩ : ∃ X,xAN G2.length t1 = X := ⟨_,rfl⟩
 obtain ⟨y2,g4⟩ : ∃ X,xAN G2.length t2 = X := ⟨_,rfl⟩
 obtain ⟨y3,g5⟩ : ∃ X,xAN G2.length t3 = X := ⟨_,rfl⟩
 obtain ⟨G4,e4⟩ : ∃ Y,G3 ++ [Blk.cells false false [.int .i64 X.vars,.int .i64 X.states,y1,y2,y3]] = Y := ⟨_,rfl⟩
 obtain ⟨G5,e5⟩ : ∃ Y,G4 ++ [Blk.cells false false X.cells] = Y := ⟨_,rfl⟩
 have n5 : ∃ T,G5 = G5 ++ T := ⟨[],by simp⟩
 have n4 := xXE e5 n5
 have n3 := xXE e4 n4
 have n2 := xXE e3 n3
 have n1 := xXE e2 n2
 have n0 := xXE e1 n1
 have k0 : ∃ T,G = G ++ T := ⟨[],by simp⟩
 have tr1 : ∀ {p x q : Heap},(∃ T,p = G ++ T) → p ++ x = q → ∃ T,q = G ++ T := fun {p x q} h e => by
  obtain ⟨T,rfl⟩ := h; exact ⟨T ++ x,by rw [← e,List.append_assoc]⟩
 have k1 := tr1 k0 e1
 have k2 := tr1 k1 e2
 have k3 := tr1 k2 e3
 have k4 := tr1 k3 e4
 have I5 := hI.ext n0
 have len1 : 1 < G.length := (List.getElem?_eq_some_iff.1 hI.b1).1
 have s1 : G1.length = G.length + B1.length := by rw [← e1,List.length_append]
 have s2 : G2.length = G1.length + B2.length := by rw [← e2,List.length_append]
 have s3 : G3.length = G2.length + B3.length := by rw [← e3,← l3,List.length_append,List.length_map]
 have s4 : G4.length = G3.length + 1 := by rw [← e4,List.length_append]; rfl
 have s5 : G5.length = G4.length + 1 := by rw [← e5,List.length_append]; rfl
 obtain ⟨o1,zk1,f1⟩ : OwI G.length G1.length G5 w1 1 ra.length ∧ ∃ z,∀ d,frz (d + 1) G5 w1 = some (sw z ra) := by
  obtain ⟨T,rfl⟩ := xUf e1 n1
  rw [← g1,s1]; exact O1.put
 obtain ⟨o2,zk2,f2⟩ : OwI G1.length G2.length G5 w2 1 rb.length ∧ ∃ z,∀ d,frz (d + 1) G5 w2 = some (sw z rb) := by
  obtain ⟨T,rfl⟩ := xUf e2 n2
  rw [← g2,s2]; exact O2.put
 obtain ⟨oy1,zy1,fy1⟩ : OwI G2.length G3.length G5 y1 1 X.st.length ∧ ∃ z,∀ d,frz (d + 1) G5 y1 = some (.sl z X.st.length (xBW X.st)) := by
  obtain ⟨T,rfl⟩ := xUf e3 n3
  rw [← g3,s3,← l3]; exact ot1.put (xFm _) (fun d H => xEm d H _)
 obtain ⟨oy2,zy2,fy2⟩ : OwI G2.length G3.length G5 y2 1 X.fi.length ∧ ∃ z,∀ d,frz (d + 1) G5 y2 = some (.sl z X.fi.length (xBW X.fi)) := by
  obtain ⟨T,rfl⟩ := xUf e3 n3
  rw [← g4,s3,← l3]; exact ot2.put (xFm _) (fun d H => xEm d H _)
 obtain ⟨oy3,zy3,fy3⟩ : OwI G2.length G3.length G5 y3 5 X.rl.length ∧ ∃ z,∀ d,frz (d + 1) G5 y3 = some (.sl z X.rl.length (rls X.rl)) := by
  obtain ⟨T,rfl⟩ := xUf e3 n3
  rw [← g5,s3,← l3]; exact ot3.put (xJP _) (fun d H => xAx d H _)
 have z3 := yBj e4 n4
 have z4 := yBj e5 n5
 obtain ⟨G6,i1,K1⟩ := xXC o1 (by omega)
 have S1 := K1.stay o1
 obtain ⟨G7,i2,K2⟩ := xXC (o2.stay S1) (by omega)
 have S2 := K2.stay (o2.stay S1)
 have L6 := S1.len
 have L7 := S2.len
 have z7 := S2.get (.inr (by omega)) (S1.get (.inr (by omega)) z3)
 obtain ⟨G8,i3,S3⟩ := yC0 (x := .int .i64 X.vars) (y := .int .i64 X.states) rfl rfl ((oy1.stay S1).stay S2) ((oy2.stay S1).stay S2) ((oy3.stay S1).stay S2) x1 x2 x3 (by omega)
 refine ⟨G8,?_,((I5.stay S1 (by omega)).stay S2 (by omega)).stay S3 (by omega)⟩
 have sc := xSU (Aut.mk X.vars X.states zy1 X.st zy2 X.fi zy3 X.rl) (by show X.st.length < _; omega) (by show X.fi.length < _; omega) (by show X.rl.length < _; omega) X.z1 X.z2 X.z3
 exact xUe htr htm htt hr hr0 h12 h16 h17 h18 h19 h20 h21 h22 h23 (xPV _ _ ra (by omega)) (xPV _ _ rb (by omega)) sc sm (xZM z1 zt tr (by have := htm; omega))
  g1 e1 g2 e2 g3 g4 g5 l3 e3 e4 e5 (yHq oy1.cell oy2.cell oy3.cell)
  hI.b1 (hI.ext k1).b1 (hI.ext k2).b1 (hI.ext k4).b1 I5.b1 I5.b0 z3 z4 (f1 5) (f2 5) (fy1 4) (fy2 4) (fy3 4) i1 i2 z7 i3
structure P16 (a : AV) (z : Bool) (t : List Lf) : Prop where
 h : ∃ u B r e z' bb,xBB L 16 [a,tw z t] = some (.tup [u,.int .i64 e],B) ∧ OwnS u B r ∧ r.length ≤ 64 ∧ L.pcall 17 [a,tw z t] = some (.tup [sw z' r,.int .i64 e]) ∧
  L.pcall 18 [a,tw z t] = some (.tup [.bool bb,.int .i64 e]) ∧ L.pcall 19 [a,tw z t] = some (.tup [.bool bb,.int .i64 e])
structure P20 (a : AV) : Prop where
 h : ∃ u B r f z',xBB L 20 [a] = some (.tup [u,.int .i64 f],B) ∧ OwnS u B r ∧ r.length ≤ 64 ∧ L.pcall 21 [a] = some (.tup [sw z' r,.int .i64 f])
structure P22 (a : AV) : Prop where
 h : ∃ v B X g,xDb L 22 [a] = some (.tup [v,.int .i64 g],B) ∧ OwA B v (Aut.vars X) X.states X.st X.fi X.rl ∧ L.pcall 23 [a] = some (.tup [X.av,.int .i64 g]) ∧ X.st.length < 1000000 ∧ X.fi.length < 1000000 ∧ X.rl.length < 1000000
structure Cut (n : Aut) : Prop where
 st : n.st.length < 1000
 fi : n.fi.length < 1000
 rl : n.rl.length < 1000
 u8 : ∀ e ∈ n.rl,e.p < 256 ∧ e.n < 256
section
variable {n : Aut}
theorem Cut.ty (h : Cut n) : TyA n := ⟨by have := h.st; omega,by have := h.fi; omega,by have := h.rl; omega,h.u8⟩
theorem Valid.nat (h : Valid n) : ∃ s : Nat,n.states = (s : Nat) ∧ s ≤ 64 := ⟨n.states.toNat,by have := h.s0; omega,by have := h.s64; omega⟩
theorem Valid.rls (h : Valid n) (hc : Cut n) {s : Nat} (hs : n.states = (s : Nat)) : RlS s n.rl := ⟨fun u hu => by
 have h1 := h.rule u hu
 have h2 := hc.u8 u hu
 omega⟩
theorem Valid.stS (h : Valid n) {s : Nat} (hs : n.states = (s : Nat)) : ∀ q ∈ n.st,0 ≤ q ∧ q < (s : Int) := fun q hq => by
 have := xEk h.st q hq; omega
theorem Valid.fiS (h : Valid n) {s : Nat} (hs : n.states = (s : Nat)) : ∀ q ∈ n.fi,0 ≤ q ∧ q < (s : Int) := fun q hq => by
 have := xEk h.fi q hq; omega
theorem yBl {w : Nat} (hw : w < 18446744073709551616) (j : Nat) : (decide (j < 64) && w.testBit j) = w.testBit j := by
 by_cases c : j < 64
 ·simp [c]
 ·have : w.testBit j = false := Nat.testBit_lt_two_pow (Nat.lt_of_lt_of_le hw (Nat.pow_le_pow_right (n := 2) (by decide) (by omega : 64 ≤ j)))
  simp [this]
theorem yGw : OwnS (.sl true 0 []) [] [] := .inl ⟨rfl,rfl,rfl⟩
theorem p16 (hc : Cut n) (z : Bool) (t : List Lf) (ht : t.length < 1000) (hx : ∀ e ∈ t,e.x < 256) : P16 n.av z t := by
 have hT := hc.ty
 have hb := yCT n z t hT (by omega) hx
 have h15 := xGu n hT.st hT.fi hT.rl hT.u8
 by_cases c : xGQ n t = 0
 ·obtain ⟨hV,h31,hlab,T,hF⟩ := bothE_zero.1 c
  rw [c] at hb
  rw [chkE_zero.2 hV] at h15
  have h49 := xXc (z := z) (by omega) hx hT.rl (hV.ok hT) hT.st hV.sts hF
  have hw := yCO (xFk n.st 0 (by omega) hV.sts) (hV.ok hT) T
  obtain ⟨v,hv⟩ : ∃ v : Nat,n.vars = (v : Nat) := ⟨n.vars.toNat,by have := hV.v0; omega⟩
  have hvt : n.vars.toNat = v := by omega
  have h50 := xTo z t v (by have := hV.v3; omega) (by omega) hx
  have ht0 : xPO t v = 0 := by
   have := c
   unfold xGQ at this
   rw [if_pos (chkE_zero.2 hV),hvt] at this
   exact this
  rw [ht0,← hv] at h50
  obtain ⟨s,hs,hs64⟩ := hV.nat
  obtain ⟨k,K,q1,q2,q3,q4⟩ := yEH (z := z) hs hs64 (by have := hc.st; omega) (by have := hc.rl; omega) (hV.stS hs) (hV.rls hc hs) (by omega) hx hF
  have q3' := q3
  obtain ⟨zz,r',m1,m2⟩ := yEM (B := K) (by omega)
  rw [q3] at m1
  have hf54 := xMt n.z2 n.fi hT.fi hV.fis
  have hfl := xFk n.fi 0 (by omega) hV.fis
  obtain ⟨u,B,r,o1,o2,o3⟩ := yC8 hw hb h49
  obtain ⟨b,a1,a2⟩ := yDa hw hfl hb h49 hf54
  generalize ev (xCW 0 n.st) n.rl T = w at *
  have hr : r = r' := CanS.uniq (o3.congr (fun j => (yBl hw j).trans (q4 j).symm)) m2
  subst hr
  have h19 := yC6 (z := z) (t := t) (by have := hc.fi; omega) hs64 q3 (hV.fiS hs) h15 h50 q1 q2
  have hbb : (n.fi.any fun q => K.getD q.toNat false) = b := by
   rw [Bool.eq_iff_iff,a2,List.any_eq_true]
   have h0 : ∀ q ∈ n.fi,0 ≤ q := fun q hq => (hV.fis q hq).1
   constructor
   ·rintro ⟨q,g1,g2⟩
    refine ⟨q.toNat,by rw [← q4]; exact g2,?_⟩
    rw [xD8 _ _ _ h0,Nat.zero_testBit,Bool.false_or,List.contains_iff_mem,Int.toNat_of_nonneg (h0 q g1)]
    exact g1
   ·rintro ⟨j,g1,g2⟩
    rw [xD8 _ _ _ h0,Nat.zero_testBit,Bool.false_or,List.contains_iff_mem] at g2
    exact ⟨_,g2,by rw [Int.toNat_natCast,q4]; exact g1⟩
  rw [hbb] at h19
  exact ⟨u,B,r,0,zz,b,o1,o2,m2.2.1,yC4 h15 h50 q1 q2 m1,a1,h19⟩
 ·have e17 : L.pcall 17 [n.av,tw z t] = some (.tup [.sl true 0 [],.int .i64 (xGQ n t)]) ∧ L.pcall 19 [n.av,tw z t] = some (.tup [.bool false,.int .i64 (xGQ n t)]) := by
   by_cases c1 : xPS n = 0
   ·have hV := chkE_zero.1 c1
    obtain ⟨v,hv⟩ : ∃ v : Nat,n.vars = (v : Nat) := ⟨n.vars.toNat,by have := hV.v0; omega⟩
    have hvt : n.vars.toNat = v := by omega
    have h50 := xTo z t v (by have := hV.v3; omega) (by omega) hx
    have he : xGQ n t = xPO t v := by unfold xGQ; rw [if_pos c1,hvt]
    rw [he] at c ⊢
    rw [← hv] at h50
    rw [c1] at h15
    exact ⟨xXR c h15 h50,xXT c h15 h50⟩
   ·have he : xGQ n t = xPS n := by unfold xGQ; rw [if_neg c1]
    rw [he]
    exact ⟨xXQ c1 h15,xXS c1 h15⟩
  exact ⟨_,_,[],xGQ n t,true,false,xZV c hb,yGw,by simp,e17.1,xZX c hb,e17.2⟩
theorem p20 (hc : Cut n) : P20 n.av := by
 have hT := hc.ty
 have h14 := xGq n hT.st hT.fi hT.rl hT.u8
 have h15 := xGu n hT.st hT.fi hT.rl hT.u8
 by_cases c : xPS n = 0
 ·have hV := chkE_zero.1 c
  rw [c] at h14 h15
  obtain ⟨w,w1,w2,w3,w4,w5⟩ := xLT hT.rl (hV.ok hT) hT.st hV.sts
  obtain ⟨u,B,r,o1,o2,o3⟩ := yC9 w2 h14 w1
  obtain ⟨s,hs,hs64⟩ := hV.nat
  have h56 := xXO n hs hs64 (by have := hc.st; omega) (by have := hc.rl; omega) (hV.stS hs) (hV.rls hc hs)
  have hl := xHE s n
  have hbit := xP0 (hV.rls hc hs) (hV.stS hs) w3 w4 w5
  obtain ⟨zz,r',m1,m2⟩ := yEM (B := xDR s n) (by omega)
  rw [hl] at m1
  have hr : r = r' := CanS.uniq (o3.congr (fun j => (yBl w2 j).trans (hbit j).symm)) m2
  subst hr
  exact ⟨u,B,r,0,zz,o1,o2,m2.2.1,yC5 h15 h56 m1⟩
 ·exact ⟨_,_,[],xPS n,true,xZW c h14,yGw,by simp,xZP c h15⟩
theorem yHr {v : AV} {G : Heap} {a s : Int} {st fi : List Int} {rl : List Rl} (h : OwA G v a s st fi rl) (e : Int) : xBm (.tup [v,.int .i64 e]) = true := by
 obtain ⟨f1,f2,f3,rfl,h1,h2,h3⟩ := h
 show ([AV.agg [.int .i64 a,.int .i64 s,f1,f2,f3],.int .i64 e]).all xBl = true
 simp only [List.all_cons,List.all_nil,xBl,h1.rel,h2.rel,h3.rel,Bool.and_true]
 rfl
def zA : Aut := ⟨0,0,true,[],true,[],true,[]⟩
theorem p22 (hc : Cut n) : P22 n.av := by
 have hT := hc.ty
 have h14 := xGq n hT.st hT.fi hT.rl hT.u8
 have h15 := xGu n hT.st hT.fi hT.rl hT.u8
 by_cases c : xPS n = 0
 ·have hV := chkE_zero.1 c
  obtain ⟨s,hs,hs64⟩ := hV.nat
  have hts : n.states.toNat = s := by omega
  obtain ⟨S,w,v,G,hU,t1,t2⟩ := yDb hT c
  rw [hts] at t2
  rw [c] at h15
  have hK := xXY (hV.rls hc hs) (hV.stS hs) (hV.fiS hs) hU
  obtain ⟨z1,z2,z3,h23⟩ := yEC n hs hs64 (by have := hc.st; omega) (by have := hc.fi; omega) (by have := hc.rl; omega) (hV.stS hs) (hV.fiS hs) (hV.rls hc hs) h15 rfl
  generalize xUh s n (xDR s n) = K at *
  have e1 := xQP (K := K) (hV.stS hs)
  have e2 := xQP (K := K) (hV.fiS hs)
  have e3 := xXG (K := K) (hV.rls hc hs)
  have hf : (fun j => K.getD j false) = fun j => w.testBit j := funext hK
  rw [hf] at e1 e2 e3 h23
  rw [e1,e2,e3] at t2
  have l1 := yBm K (rks (fun j => w.testBit j) s) n.st
  have l2 := yBm K (rks (fun j => w.testBit j) s) n.fi
  have l3 := yC2 K (rks (fun j => w.testBit j) s) n.rl
  have c1 := hc.st
  have c2 := hc.fi
  have c3 := hc.rl
  exact ⟨v,G,_,0,xIZ t1 (yHr t2 0),t2,h23,by show (fl K _ n.st).length < _; omega,by show (fl K _ n.fi).length < _; omega,by show (flR K _ n.rl).length < _; omega⟩
 ·obtain ⟨G,h22⟩ := xUi c h14
  exact ⟨yED,G,zA,xPS n,xIZ h22 rfl,⟨_,_,_,rfl,.inl ⟨rfl,rfl,rfl⟩,.inl ⟨rfl,rfl,rfl⟩,.inl ⟨rfl,rfl,rfl⟩⟩,xUg c h15,by decide,by decide,by decide⟩
end
end Go.Abs.Tree
