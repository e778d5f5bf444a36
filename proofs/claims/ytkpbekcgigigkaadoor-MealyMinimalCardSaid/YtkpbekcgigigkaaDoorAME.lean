/- (queue[[2]int]).put. -/
import Derived.Test.YtkpbekcgigigkaaDoorAbsBun
import Derived.Test.YtkpbekcgigigkaaDoorAMB
import Derived.Test.YtkpbekcgigigkaaDoorAbsLim
namespace Go.Abs.Mealy
open Go Go.Abs
set_option linter.unusedSimpArgs false
set_option linter.unusedVariables false
theorem xD2 (H : Heap) (id : Nat) (v : AV) (es : List (AV × AV)) : yAE H id 0 v (some es) = yCb H id 0 v es es[0]? := rfl
def KtP (P : Nat → Prop) (T : Nat) (G G' : Heap) : Prop := G.length ≤ G'.length ∧ ∀ b,¬ P b → b ≠ T → G'[b]? = G[b]?
def QI (P : Nat → Prop) (T : Nat) (G : Heap) (ks : List (Nat × Nat)) : Prop :=
  ∃ mv lv,G[T]? = some (.cells false false [mv,lv]) ∧
    ((mv = .nilm ∧ lv = .sl true 0 [] ∧ ks = []) ∨ ∃ q p,mv = .mp q ∧ lv = .own false p 0 ks.length 2 ∧ P q ∧ P p ∧ G[q]? = some (.mp (ent kv2 ks 0)) ∧ G[p]? = some (.cells false false (pcs ks)))
section
variable {P : Nat → Prop} {T : Nat} {G : Heap} {ks : List (Nat × Nat)} {k : Nat × Nat}
theorem pcs_snoc' (l : List (Nat × Nat)) (a b : Nat) : pcs l ++ [.int .i64 (a : Nat),.int .i64 (b : Nat)] = pcs (l ++ [(a,b)]) := xXE l (a,b)
theorem xXL (l : List (Nat × Nat)) : List.take (l.length * 2) (pcs l) = pcs l := List.take_of_length_le (by rw [xAl]; exact Nat.le_refl _)
set_option maxHeartbeats 1000000 in
theorem xVY (hT : ¬ P T) (hB : ∀ n,G.length ≤ n → P n) (h : QI P T G ks) (hk : k ∉ ks) (hl : ks.length < 1099511627) :
    ∃ G',L.icall (.func 74 []) [.ptr T 0,kv2 k] G = some (.tup [.int .i64 (ks.length : Nat),.bool true],G') ∧ QI P T G' (ks ++ [k]) ∧ KtP P T G G' := by
  obtain ⟨mv,lv,h1,h2⟩ := h
  obtain ⟨k1,k2⟩ := k
  have hf := xDp xVx (k1,k2) ks 0
  rw [if_neg hk] at hf
  have hG := xBI h1
  have he := xGK xVx (k1,k2) (.int .i64 0) ks 0 0 hk
  have ha := xVw kv2 (k1,k2) (.int .i64 0) ks
  have hs := xPb kv2 (k1,k2) (.int .i64 0) ks
  simp only [kv2,Nat.zero_add] at hf he ha hs ⊢
  rcases h2 with ⟨rfl,rfl,rfl⟩ | ⟨q,p,rfl,rfl,hq,hp,hqm,hpl⟩
  · have he' : xEx (.agg [.int .i64 (k1 : Nat),.int .i64 (k2 : Nat)]) (.int .i64 0) [] 0 = some (.int .i64 0,0,[(.agg [.int .i64 (k1 : Nat),.int .i64 (k2 : Nat)],.int .i64 0)]) := rfl
    refine ⟨G.set T (.cells false false [.mp (G.length + 1),.own false (G.length + 2) 0 1 2]) ++ [.cells false false [.int .i64 (k1 : Nat),.int .i64 (k2 : Nat)],.mp (ent kv2 [(k1,k2)] 0),.cells false false (pcs [(k1,k2)])],?_,⟨.mp (G.length + 1),.own false (G.length + 2) 0 1 2,?_,.inr ⟨G.length + 1,G.length + 2,rfl,rfl,hB _ (by omega),hB _ (by omega),?_,?_⟩⟩,?_,?_⟩
    · rw [yB5,a74]
      simp (maxSteps := 30000000) (disch := first | assumption | omega | (simp only [WL,AV.isCell,List.length_modify,xAl] <;> omega) | rfl | decide) only [↓reduceIte,WB,xAC,xAc,xAB,xAk,xAj,AV.cells,AV.isCell,xAb,xAf,xAg,WP,xAt,xAm,xA0,xAZ,xAX,xAq,xAv,xAu,WM,W2,xAd,xAe,xAh,Nat.reduceAdd,Nat.reduceSub,Nat.reduceLeDiff,Nat.reduceMul,Int.reduceAdd,Int.reduceSub,Int.reduceMul,Int.reduceLT,Int.reduceLE,Int.reduceEq,Int.reduceToNat,Int.reduceNeg,Nat.reduceEqDiff,Nat.reduceBEq,Nat.reduceLT,xAW,xBs,xBv,xBR,xBS,xBP,xAR,xA5,xCD,xBD,xB7,xB8,xBn,xA7,xA8,List.set_set,xAl,xBx,xBy,xCE,xB9,xBc,xBm,xBG,xCF,xBF,xD2,xBE,h1,he',xDT]
      try rfl
    · rw [xAW (by simpa using hG),xA5 hG]
    · rw [xBs (by simp)]; rfl
    · rw [xBs (by simp)]; rfl
    · simp
    · intro b hb ht
      have hb' : b < G.length := Nat.lt_of_not_le fun e => hb (hB b e)
      rw [xAW (by simp; omega),xAR (fun e => ht e.symm)]
  · have hGq := xBI hqm
    have hGp := xBI hpl
    have hpT : p ≠ T := fun e : p = T => hT (e ▸ hp)
    have hqT : q ≠ T := fun e : q = T => hT (e ▸ hq)
    have hpq : p ≠ q := by rintro rfl; rw [hpl] at hqm; cases hqm
    have b1 : (T != p) = true := by simpa using fun e : T = p => hpT e.symm
    have b2 : (G.length != p) = true := by simp; omega
    have hlm : (ent kv2 ks 0).length = ks.length := xFP ..
    refine ⟨((G.set p .dead).set q (.mp (ent kv2 (ks ++ [(k1,k2)]) 0))).set T (.cells false false [.mp q,.own false (G.length + 1) 0 (ks.length + 1) 2]) ++ [.cells false false [.int .i64 (k1 : Nat),.int .i64 (k2 : Nat)],.cells false false (pcs (ks ++ [(k1,k2)]))],?_,⟨.mp q,.own false (G.length + 1) 0 (ks.length + 1) 2,?_,.inr ⟨q,G.length + 1,rfl,by simp,hq,hB _ (by omega),?_,?_⟩⟩,?_,?_⟩
    · rw [yB5,a74]
      simp (maxSteps := 30000000) (disch := first | assumption | omega | (simp only [WL,AV.isCell,List.length_modify,xAl] <;> omega) | rfl | decide) only [↓reduceIte,WB,xAC,xAc,xAB,xAk,xAj,AV.cells,AV.isCell,xAb,xAf,xAg,WP,xAt,xAm,xA0,xAZ,xAX,xAq,xAv,xAu,WM,W2,xAd,xAe,xAh,Nat.reduceAdd,Nat.reduceSub,Nat.reduceLeDiff,Nat.reduceMul,Int.reduceAdd,Int.reduceSub,Int.reduceMul,Int.reduceLT,Int.reduceLE,Int.reduceEq,Int.reduceToNat,Int.reduceNeg,Nat.reduceEqDiff,Nat.reduceBEq,Nat.reduceLT,xAW,xBs,xBv,xBR,xBS,xBP,xAR,xA5,xCD,xBD,xB7,xB8,xBn,xA7,xA8,List.set_set,xAl,xBx,xBy,xCE,xB9,xBc,xBm,xBG,xCF,xBF,xD2,xBE,h1,hf,he,ha,hs,hqm,hpl,b1,b2,xXL,pcs_snoc']
      try rfl
    · rw [xAW (by simpa using hG),xA5 (by simpa using hG)]
    · rw [xAW (by simpa using hGq),xAR (fun e => hqT e.symm),xA5 (by simpa using hGq)]
    · rw [xBs (by simp)]; rfl
    · simp
    · intro b hb ht
      have hb' : b < G.length := Nat.lt_of_not_le fun e => hb (hB b e)
      rw [xAW (by simp; omega),xAR (fun e => ht e.symm),xAR (fun e : q = b => hb (e ▸ hq)),xAR (fun e : p = b => hb (e ▸ hp))]
theorem xVZ (hT : ¬ P T) (hB : ∀ n,G.length ≤ n → P n) (h : QI P T G ks) (hk : k ∈ ks) (hl : ks.length < 1099511627) :
    ∃ G',L.icall (.func 74 []) [.ptr T 0,kv2 k] G = some (.tup [.int .i64 (pos k ks : Nat),.bool false],G') ∧ QI P T G' ks ∧ KtP P T G G' := by
  obtain ⟨mv,lv,h1,h2⟩ := h
  have hf := xDp xVx k ks 0
  rw [if_pos hk,Nat.zero_add] at hf
  generalize pos k ks = n at *
  obtain ⟨k1,k2⟩ := k
  have hG := xBI h1
  simp only [kv2] at hf ⊢
  rcases h2 with ⟨rfl,rfl,rfl⟩ | ⟨q,p,rfl,rfl,hq,hp,hqm,hpl⟩
  · simp at hk
  · have hGq := xBI hqm
    have hGp := xBI hpl
    refine ⟨G ++ [.cells false false [.int .i64 (k1 : Nat),.int .i64 (k2 : Nat)]],?_,⟨.mp q,.own false p 0 ks.length 2,?_,.inr ⟨q,p,rfl,rfl,hq,hp,?_,?_⟩⟩,?_,?_⟩
    · rw [yB5,a74]
      simp (maxSteps := 30000000) (disch := first | assumption | omega | (simp only [WL,AV.isCell,List.length_modify,xAl] <;> omega) | rfl | decide) only [↓reduceIte,WB,xAC,xAc,xAB,xAk,xAj,AV.cells,AV.isCell,xAb,xAf,xAg,WP,xAt,xAm,xA0,xAZ,xAX,xAq,xAv,xAu,WM,W2,xAd,xAe,xAh,Nat.reduceAdd,Nat.reduceSub,Nat.reduceLeDiff,Nat.reduceMul,Int.reduceAdd,Int.reduceSub,Int.reduceMul,Int.reduceLT,Int.reduceLE,Int.reduceEq,Int.reduceToNat,Int.reduceNeg,Nat.reduceEqDiff,Nat.reduceBEq,Nat.reduceLT,xAW,xBs,xBv,xBR,xBS,xBP,xAR,xA5,xCD,xBD,xB7,xB8,xBn,xA7,xA8,List.set_set,xAl,xBx,xBy,xCE,xB9,xBc,xBm,xBG,xCF,xBF,xD2,xBE,h1,hf,hqm]
    · rw [xAW hG,h1]
    · rw [xAW hGq,hqm]
    · rw [xAW hGp,hpl]
    · simp
    · intro b hb ht
      rw [xAW (Nat.lt_of_not_le fun e => hb (hB b e))]
theorem xV0 {k1 k2 : Nat} (h1 : G[T]? = some (.cells false false [.nilm,.sl true 0 []])) :
    L.icall (.func 74 []) [.ptr T 0,.agg [.int .i64 (k1 : Nat),.int .i64 (k2 : Nat)]] G = some (.tup [.int .i64 0,.bool true],G.set T (.cells false false [.mp (G.length + 1),.own false (G.length + 2) 0 1 2]) ++ [.cells false false [.int .i64 (k1 : Nat),.int .i64 (k2 : Nat)],.mp (ent kv2 [(k1,k2)] 0),.cells false false (pcs [(k1,k2)])]) := by
  have hG := xBI h1
  have he' : xEx (.agg [.int .i64 (k1 : Nat),.int .i64 (k2 : Nat)]) (.int .i64 0) [] 0 = some (.int .i64 0,0,[(.agg [.int .i64 (k1 : Nat),.int .i64 (k2 : Nat)],.int .i64 0)]) := rfl
  rw [yB5,a74]
  simp (maxSteps := 30000000) (disch := first | assumption | omega | (simp only [WL,AV.isCell,List.length_modify,xAl] <;> omega) | rfl | decide) only [↓reduceIte,WB,xAC,xAc,xAB,xAk,xAj,AV.cells,AV.isCell,xAb,xAf,xAg,WP,xAt,xAm,xA0,xAZ,xAX,xAq,xAv,xAu,WM,W2,xAd,xAe,xAh,Nat.reduceAdd,Nat.reduceSub,Nat.reduceLeDiff,Nat.reduceMul,Int.reduceAdd,Int.reduceSub,Int.reduceMul,Int.reduceLT,Int.reduceLE,Int.reduceEq,Int.reduceToNat,Int.reduceNeg,Nat.reduceEqDiff,Nat.reduceBEq,Nat.reduceLT,xAW,xBs,xBv,xBR,xBS,xBP,xAR,xA5,xCD,xBD,xB7,xB8,xBn,xA7,xA8,List.set_set,xAl,xBx,xBy,xCE,xB9,xBc,xBm,xBG,xCF,xBF,xD2,xBE,h1,he',xDT]
  try rfl
end
abbrev Kpr := List UInt8 × List UInt8
def kvS (p : Kpr) : AV := .agg [.str ⟨p.1.toArray⟩,.str ⟨p.2.toArray⟩]
theorem xV1 : xVv kvS := by
  intro a b
  obtain ⟨a1,a2⟩ := a
  obtain ⟨b1,b2⟩ := b
  have e : xBY (kvS (a1,a2)) (kvS (b1,b2)) = some ((a1 == b1) && ((a2 == b2) && true)) := rfl
  rw [e,Bool.and_true]
  congr 1
  by_cases c1 : a1 = b1
  · subst c1
    by_cases c2 : a2 = b2
    · subst c2; simp
    · rw [decide_eq_false (fun h => c2 (by injection h))]
      simp [c2]
  · rw [decide_eq_false (fun h => c1 (by injection h))]
    simp [c1]
def yC4 (c : Kpr) : List AV := [.str ⟨c.1.toArray⟩,.str ⟨c.2.toArray⟩]
def pss (l : List Kpr) : List AV := rows yC4 l
theorem xCe (l : List Kpr) : (pss l).length = l.length * 2 := xED (enc := yC4) (k := 2) (fun _ => rfl) l
theorem xXM (l : List Kpr) (c : Kpr) : pss l ++ [.str ⟨c.1.toArray⟩,.str ⟨c.2.toArray⟩] = pss (l ++ [c]) := xRr yC4 l [c]
def QS (P : Nat → Prop) (T : Nat) (G : Heap) (ks : List Kpr) : Prop :=
  ∃ mv lv,G[T]? = some (.cells false false [mv,lv]) ∧
    ((mv = .nilm ∧ lv = .sl true 0 [] ∧ ks = []) ∨ ∃ q p,mv = .mp q ∧ lv = .own false p 0 ks.length 2 ∧ P q ∧ P p ∧ G[q]? = some (.mp (ent kvS ks 0)) ∧ G[p]? = some (.cells false false (pss ks)))
section
variable {P : Nat → Prop} {T : Nat} {G : Heap} {ks : List Kpr} {k : Kpr}
theorem pss_snoc' (l : List Kpr) (a b : List UInt8) : pss l ++ [.str ⟨a.toArray⟩,.str ⟨b.toArray⟩] = pss (l ++ [(a,b)]) := xXM l (a,b)
theorem xXN (l : List Kpr) : List.take (l.length * 2) (pss l) = pss l := List.take_of_length_le (by rw [xCe]; exact Nat.le_refl _)
set_option maxHeartbeats 1000000 in
theorem xV2 (hT : ¬ P T) (hB : ∀ n,G.length ≤ n → P n) (h : QS P T G ks) (hk : k ∉ ks) (hl : ks.length < 1099511627) :
    ∃ G',L.icall (.func 92 []) [.ptr T 0,kvS k] G = some (.tup [.int .i64 (ks.length : Nat),.bool true],G') ∧ QS P T G' (ks ++ [k]) ∧ KtP P T G G' := by
  obtain ⟨mv,lv,h1,h2⟩ := h
  obtain ⟨k1,k2⟩ := k
  have hf := xDp xV1 (k1,k2) ks 0
  rw [if_neg hk] at hf
  have hG := xBI h1
  have he := xGK xV1 (k1,k2) (.int .i64 0) ks 0 0 hk
  have ha := xVw kvS (k1,k2) (.int .i64 0) ks
  have hs := xPb kvS (k1,k2) (.int .i64 0) ks
  simp only [kvS,Nat.zero_add] at hf he ha hs ⊢
  rcases h2 with ⟨rfl,rfl,rfl⟩ | ⟨q,p,rfl,rfl,hq,hp,hqm,hpl⟩
  · have he' : xEx (.agg [.str ⟨k1.toArray⟩,.str ⟨k2.toArray⟩]) (.int .i64 0) [] 0 = some (.int .i64 0,0,[(.agg [.str ⟨k1.toArray⟩,.str ⟨k2.toArray⟩],.int .i64 0)]) := rfl
    refine ⟨G.set T (.cells false false [.mp (G.length + 1),.own false (G.length + 2) 0 1 2]) ++ [.cells false false [.str ⟨k1.toArray⟩,.str ⟨k2.toArray⟩],.mp (ent kvS [(k1,k2)] 0),.cells false false (pss [(k1,k2)])],?_,⟨.mp (G.length + 1),.own false (G.length + 2) 0 1 2,?_,.inr ⟨G.length + 1,G.length + 2,rfl,rfl,hB _ (by omega),hB _ (by omega),?_,?_⟩⟩,?_,?_⟩
    · rw [yCl,a92]
      simp (maxSteps := 30000000) (disch := first | assumption | omega | (simp only [WL,AV.isCell,List.length_modify,xCe] <;> omega) | rfl | decide) only [↓reduceIte,WB,xAC,xAc,xAB,xAk,xAj,AV.cells,AV.isCell,xAb,xAf,xAg,WP,xAt,xAm,xA0,xAZ,xAX,xAq,xAv,xAu,WM,W2,xAd,xAe,xAh,Nat.reduceAdd,Nat.reduceSub,Nat.reduceLeDiff,Nat.reduceMul,Int.reduceAdd,Int.reduceSub,Int.reduceMul,Int.reduceLT,Int.reduceLE,Int.reduceEq,Int.reduceToNat,Int.reduceNeg,Nat.reduceEqDiff,Nat.reduceBEq,Nat.reduceLT,xAW,xBs,xBv,xBR,xBS,xBP,xAR,xA5,xCD,xBD,xB7,xB8,xBn,xA7,xA8,xEC,List.set_set,xCe,xBx,xBy,xCE,xB9,xBc,xBm,xBG,xCF,xBF,xD2,xBE,h1,he',xDT]
      try rfl
    · rw [xAW (by simpa using hG),xA5 hG]
    · rw [xBs (by simp)]; rfl
    · rw [xBs (by simp)]; rfl
    · simp
    · intro b hb ht
      have hb' : b < G.length := Nat.lt_of_not_le fun e => hb (hB b e)
      rw [xAW (by simp; omega),xAR (fun e => ht e.symm)]
  · have hGq := xBI hqm
    have hGp := xBI hpl
    have hpT : p ≠ T := fun e : p = T => hT (e ▸ hp)
    have hqT : q ≠ T := fun e : q = T => hT (e ▸ hq)
    have hpq : p ≠ q := by rintro rfl; rw [hpl] at hqm; cases hqm
    have b1 : (T != p) = true := by simpa using fun e : T = p => hpT e.symm
    have b2 : (G.length != p) = true := by simp; omega
    have hlm : (ent kvS ks 0).length = ks.length := xFP ..
    refine ⟨((G.set p .dead).set q (.mp (ent kvS (ks ++ [(k1,k2)]) 0))).set T (.cells false false [.mp q,.own false (G.length + 1) 0 (ks.length + 1) 2]) ++ [.cells false false [.str ⟨k1.toArray⟩,.str ⟨k2.toArray⟩],.cells false false (pss (ks ++ [(k1,k2)]))],?_,⟨.mp q,.own false (G.length + 1) 0 (ks.length + 1) 2,?_,.inr ⟨q,G.length + 1,rfl,by simp,hq,hB _ (by omega),?_,?_⟩⟩,?_,?_⟩
    · rw [yCl,a92]
      simp (maxSteps := 30000000) (disch := first | assumption | omega | (simp only [WL,AV.isCell,List.length_modify,xCe] <;> omega) | rfl | decide) only [↓reduceIte,WB,xAC,xAc,xAB,xAk,xAj,AV.cells,AV.isCell,xAb,xAf,xAg,WP,xAt,xAm,xA0,xAZ,xAX,xAq,xAv,xAu,WM,W2,xAd,xAe,xAh,Nat.reduceAdd,Nat.reduceSub,Nat.reduceLeDiff,Nat.reduceMul,Int.reduceAdd,Int.reduceSub,Int.reduceMul,Int.reduceLT,Int.reduceLE,Int.reduceEq,Int.reduceToNat,Int.reduceNeg,Nat.reduceEqDiff,Nat.reduceBEq,Nat.reduceLT,xAW,xBs,xBv,xBR,xBS,xBP,xAR,xA5,xCD,xBD,xB7,xB8,xBn,xA7,xA8,xEC,List.set_set,xCe,xBx,xBy,xCE,xB9,xBc,xBm,xBG,xCF,xBF,xD2,xBE,h1,hf,he,ha,hs,hqm,hpl,b1,b2,xXN,pss_snoc']
      try rfl
    · rw [xAW (by simpa using hG),xA5 (by simpa using hG)]
    · rw [xAW (by simpa using hGq),xAR (fun e => hqT e.symm),xA5 (by simpa using hGq)]
    · rw [xBs (by simp)]; rfl
    · simp
    · intro b hb ht
      have hb' : b < G.length := Nat.lt_of_not_le fun e => hb (hB b e)
      rw [xAW (by simp; omega),xAR (fun e => ht e.symm),xAR (fun e : q = b => hb (e ▸ hq)),xAR (fun e : p = b => hb (e ▸ hp))]
theorem xV3 (hT : ¬ P T) (hB : ∀ n,G.length ≤ n → P n) (h : QS P T G ks) (hk : k ∈ ks) (hl : ks.length < 1099511627) :
    ∃ G',L.icall (.func 92 []) [.ptr T 0,kvS k] G = some (.tup [.int .i64 (pos k ks : Nat),.bool false],G') ∧ QS P T G' ks ∧ KtP P T G G' := by
  obtain ⟨mv,lv,h1,h2⟩ := h
  have hf := xDp xV1 k ks 0
  rw [if_pos hk,Nat.zero_add] at hf
  generalize pos k ks = n at *
  obtain ⟨k1,k2⟩ := k
  have hG := xBI h1
  simp only [kvS] at hf ⊢
  rcases h2 with ⟨rfl,rfl,rfl⟩ | ⟨q,p,rfl,rfl,hq,hp,hqm,hpl⟩
  · simp at hk
  · have hGq := xBI hqm
    have hGp := xBI hpl
    refine ⟨G ++ [.cells false false [.str ⟨k1.toArray⟩,.str ⟨k2.toArray⟩]],?_,⟨.mp q,.own false p 0 ks.length 2,?_,.inr ⟨q,p,rfl,rfl,hq,hp,?_,?_⟩⟩,?_,?_⟩
    · rw [yCl,a92]
      simp (maxSteps := 30000000) (disch := first | assumption | omega | (simp only [WL,AV.isCell,List.length_modify,xCe] <;> omega) | rfl | decide) only [↓reduceIte,WB,xAC,xAc,xAB,xAk,xAj,AV.cells,AV.isCell,xAb,xAf,xAg,WP,xAt,xAm,xA0,xAZ,xAX,xAq,xAv,xAu,WM,W2,xAd,xAe,xAh,Nat.reduceAdd,Nat.reduceSub,Nat.reduceLeDiff,Nat.reduceMul,Int.reduceAdd,Int.reduceSub,Int.reduceMul,Int.reduceLT,Int.reduceLE,Int.reduceEq,Int.reduceToNat,Int.reduceNeg,Nat.reduceEqDiff,Nat.reduceBEq,Nat.reduceLT,xAW,xBs,xBv,xBR,xBS,xBP,xAR,xA5,xCD,xBD,xB7,xB8,xBn,xA7,xA8,xEC,List.set_set,xCe,xBx,xBy,xCE,xB9,xBc,xBm,xBG,xCF,xBF,xD2,xBE,h1,hf,hqm]
    · rw [xAW hG,h1]
    · rw [xAW hGq,hqm]
    · rw [xAW hGp,hpl]
    · simp
    · intro b hb ht
      rw [xAW (Nat.lt_of_not_le fun e => hb (hB b e))]
end
theorem xAU (l : List Nat) : (xAQ l).length = l.length := List.length_map ..
theorem is64_snoc' (l : List Nat) (a : Nat) : xAQ l ++ [.int .i64 (a : Nat)] = xAQ (l ++ [a]) := by unfold xAQ; rw [List.map_append]; rfl
theorem xDa (l : List Nat) : List.take l.length (xAQ l) = xAQ l := List.take_of_length_le (by rw [xAU]; exact Nat.le_refl _)
def QN (P : Nat → Prop) (T : Nat) (G : Heap) (ks : List Nat) : Prop :=
  ∃ mv lv,G[T]? = some (.cells false false [mv,lv]) ∧
    ((mv = .nilm ∧ lv = .sl true 0 [] ∧ ks = []) ∨ ∃ q p,mv = .mp q ∧ lv = .own false p 0 ks.length 1 ∧ P q ∧ P p ∧ G[q]? = some (.mp (ent kv1 ks 0)) ∧ G[p]? = some (.cells false false (xAQ ks)))
section
variable {P : Nat → Prop} {T : Nat} {G : Heap} {ks : List Nat} {k : Nat}
set_option maxHeartbeats 1000000 in
theorem xV4 (hT : ¬ P T) (hB : ∀ n,G.length ≤ n → P n) (h : QN P T G ks) (hk : k ∉ ks) (hl : ks.length < 1099511627) :
    ∃ G',L.icall (.func 70 []) [.ptr T 0,kv1 k] G = some (.tup [.int .i64 (ks.length : Nat),.bool true],G') ∧ QN P T G' (ks ++ [k]) ∧ KtP P T G G' := by
  obtain ⟨mv,lv,h1,h2⟩ := h
  have hf := xDp xVy k ks 0
  rw [if_neg hk] at hf
  have hG := xBI h1
  have he := xGK xVy k (.int .i64 0) ks 0 0 hk
  have ha := xVw kv1 k (.int .i64 0) ks
  have hs := xPb kv1 k (.int .i64 0) ks
  simp only [kv1,Nat.zero_add] at hf he ha hs ⊢
  rcases h2 with ⟨rfl,rfl,rfl⟩ | ⟨q,p,rfl,rfl,hq,hp,hqm,hpl⟩
  · have he' : xEx (.int .i64 (k : Nat)) (.int .i64 0) [] 0 = some (.int .i64 0,0,[(.int .i64 (k : Nat),.int .i64 0)]) := rfl
    refine ⟨G.set T (.cells false false [.mp (G.length),.own false (G.length + 1) 0 1 1]) ++ [.mp (ent kv1 [k] 0),.cells false false (xAQ [k])],?_,⟨.mp (G.length),.own false (G.length + 1) 0 1 1,?_,.inr ⟨G.length,G.length + 1,rfl,rfl,hB _ (by omega),hB _ (by omega),?_,?_⟩⟩,?_,?_⟩
    · rw [yB4,a70]
      simp (maxSteps := 30000000) (disch := first | assumption | omega | (simp only [WL,AV.isCell,List.length_modify] <;> omega) | rfl | decide) only [↓reduceIte,WB,xAC,xAc,xAB,xAk,xAj,AV.cells,AV.isCell,xAb,xAf,xAg,WP,xAt,xAm,xA0,xAZ,xAX,xAq,xAv,xAu,WM,W2,xAd,xAe,xAh,Nat.reduceAdd,Nat.reduceSub,Nat.reduceLeDiff,Nat.reduceMul,Int.reduceAdd,Int.reduceSub,Int.reduceMul,Int.reduceLT,Int.reduceLE,Int.reduceEq,Int.reduceToNat,Int.reduceNeg,Nat.reduceEqDiff,Nat.reduceBEq,Nat.reduceLT,xAW,xBs,xBv,xBR,xBS,xBP,xAR,xA5,xCD,xBD,xB7,xB8,xBn,xA7,xA8,List.set_set,xAU,xBx,xBy,xCE,xB9,xBc,xBm,xBG,xCF,xBF,xD2,xBE,h1,he',xDT]
      try rfl
    · rw [xAW (by simpa using hG),xA5 hG]
    · rw [xBv (by simp)]; rfl
    · rw [xBs (by simp)]; rfl
    · simp
    · intro b hb ht
      have hb' : b < G.length := Nat.lt_of_not_le fun e => hb (hB b e)
      rw [xAW (by simp; omega),xAR (fun e => ht e.symm)]
  · have hGq := xBI hqm
    have hGp := xBI hpl
    have hpT : p ≠ T := fun e : p = T => hT (e ▸ hp)
    have hqT : q ≠ T := fun e : q = T => hT (e ▸ hq)
    have hpq : p ≠ q := by rintro rfl; rw [hpl] at hqm; cases hqm
    have b1 : (T != p) = true := by simpa using fun e : T = p => hpT e.symm
    have b2 : (G.length != p) = true := by simp; omega
    have hlm : (ent kv1 ks 0).length = ks.length := xFP ..
    refine ⟨((G.set p .dead).set q (.mp (ent kv1 (ks ++ [k]) 0))).set T (.cells false false [.mp q,.own false (G.length) 0 (ks.length + 1) 1]) ++ [.cells false false (xAQ (ks ++ [k]))],?_,⟨.mp q,.own false (G.length) 0 (ks.length + 1) 1,?_,.inr ⟨q,G.length,rfl,by simp,hq,hB _ (by omega),?_,?_⟩⟩,?_,?_⟩
    · rw [yB4,a70]
      simp (maxSteps := 30000000) (disch := first | assumption | omega | (simp only [WL,AV.isCell,List.length_modify] <;> omega) | rfl | decide) only [↓reduceIte,WB,xAC,xAc,xAB,xAk,xAj,AV.cells,AV.isCell,xAb,xAf,xAg,WP,xAt,xAm,xA0,xAZ,xAX,xAq,xAv,xAu,WM,W2,xAd,xAe,xAh,Nat.reduceAdd,Nat.reduceSub,Nat.reduceLeDiff,Nat.reduceMul,Int.reduceAdd,Int.reduceSub,Int.reduceMul,Int.reduceLT,Int.reduceLE,Int.reduceEq,Int.reduceToNat,Int.reduceNeg,Nat.reduceEqDiff,Nat.reduceBEq,Nat.reduceLT,xAW,xBs,xBv,xBR,xBS,xBP,xAR,xA5,xCD,xBD,xB7,xB8,xBn,xA7,xA8,List.set_set,xAU,xBx,xBy,xCE,xB9,xBc,xBm,xBG,xCF,xBF,xD2,xBE,h1,hf,he,ha,hs,hqm,hpl,b1,b2,xDa,is64_snoc']
      try rfl
    · rw [xAW (by simpa using hG),xA5 (by simpa using hG)]
    · rw [xAW (by simpa using hGq),xAR (fun e => hqT e.symm),xA5 (by simpa using hGq)]
    · rw [xBv (by simp)]; rfl
    · simp
    · intro b hb ht
      have hb' : b < G.length := Nat.lt_of_not_le fun e => hb (hB b e)
      rw [xAW (by simp; omega),xAR (fun e => ht e.symm),xAR (fun e : q = b => hb (e ▸ hq)),xAR (fun e : p = b => hb (e ▸ hp))]
theorem xV5 (hT : ¬ P T) (hB : ∀ n,G.length ≤ n → P n) (h : QN P T G ks) (hk : k ∈ ks) (hl : ks.length < 1099511627) :
    ∃ G',L.icall (.func 70 []) [.ptr T 0,kv1 k] G = some (.tup [.int .i64 (pos k ks : Nat),.bool false],G') ∧ QN P T G' ks ∧ KtP P T G G' := by
  obtain ⟨mv,lv,h1,h2⟩ := h
  have hf := xDp xVy k ks 0
  rw [if_pos hk,Nat.zero_add] at hf
  generalize pos k ks = n at *
  have hG := xBI h1
  simp only [kv1] at hf ⊢
  rcases h2 with ⟨rfl,rfl,rfl⟩ | ⟨q,p,rfl,rfl,hq,hp,hqm,hpl⟩
  · simp at hk
  · have hGq := xBI hqm
    have hGp := xBI hpl
    refine ⟨G ,?_,⟨.mp q,.own false p 0 ks.length 1,?_,.inr ⟨q,p,rfl,rfl,hq,hp,?_,?_⟩⟩,?_,?_⟩
    · rw [yB4,a70]
      simp (maxSteps := 30000000) (disch := first | assumption | omega | (simp only [WL,AV.isCell,List.length_modify] <;> omega) | rfl | decide) only [↓reduceIte,WB,xAC,xAc,xAB,xAk,xAj,AV.cells,AV.isCell,xAb,xAf,xAg,WP,xAt,xAm,xA0,xAZ,xAX,xAq,xAv,xAu,WM,W2,xAd,xAe,xAh,Nat.reduceAdd,Nat.reduceSub,Nat.reduceLeDiff,Nat.reduceMul,Int.reduceAdd,Int.reduceSub,Int.reduceMul,Int.reduceLT,Int.reduceLE,Int.reduceEq,Int.reduceToNat,Int.reduceNeg,Nat.reduceEqDiff,Nat.reduceBEq,Nat.reduceLT,xAW,xBs,xBv,xBR,xBS,xBP,xAR,xA5,xCD,xBD,xB7,xB8,xBn,xA7,xA8,List.set_set,xAU,xBx,xBy,xCE,xB9,xBc,xBm,xBG,xCF,xBF,xD2,xBE,h1,hf,hqm]
    · exact h1
    · exact hqm
    · exact hpl
    · simp
    · intro b hb ht
      rfl
theorem xV6 {k : Nat} (h1 : G[T]? = some (.cells false false [.nilm,.sl true 0 []])) :
    L.icall (.func 70 []) [.ptr T 0,.int .i64 (k : Nat)] G = some (.tup [.int .i64 0,.bool true],G.set T (.cells false false [.mp (G.length),.own false (G.length + 1) 0 1 1]) ++ [.mp (ent kv1 [k] 0),.cells false false (xAQ [k])]) := by
  have hG := xBI h1
  have he' : xEx (.int .i64 (k : Nat)) (.int .i64 0) [] 0 = some (.int .i64 0,0,[(.int .i64 (k : Nat),.int .i64 0)]) := rfl
  rw [yB4,a70]
  simp (maxSteps := 30000000) (disch := first | assumption | omega | (simp only [WL,AV.isCell,List.length_modify] <;> omega) | rfl | decide) only [↓reduceIte,WB,xAC,xAc,xAB,xAk,xAj,AV.cells,AV.isCell,xAb,xAf,xAg,WP,xAt,xAm,xA0,xAZ,xAX,xAq,xAv,xAu,WM,W2,xAd,xAe,xAh,Nat.reduceAdd,Nat.reduceSub,Nat.reduceLeDiff,Nat.reduceMul,Int.reduceAdd,Int.reduceSub,Int.reduceMul,Int.reduceLT,Int.reduceLE,Int.reduceEq,Int.reduceToNat,Int.reduceNeg,Nat.reduceEqDiff,Nat.reduceBEq,Nat.reduceLT,xAW,xBs,xBv,xBR,xBS,xBP,xAR,xA5,xCD,xBD,xB7,xB8,xBn,xA7,xA8,List.set_set,xAU,xBx,xBy,xCE,xB9,xBc,xBm,xBG,xCF,xBF,xD2,xBE,h1,he',xDT]
  try rfl
end
theorem xDs (l : List Nat) (i x : Nat) : (xAQ l).set i (.int .i64 (x : Nat)) = xAQ (l.set i x) := by
  unfold xAQ
  rw [List.map_set]
def xIU (f : Nat → Nat) (row : List Nat) : List Nat → Nat → Nat → List Nat
  | l,_,0 => l
  | l,i,e + 1 => xIU f row (l.set i (f (row.getD i 0))) (i + 1) e
theorem xOx (f : Nat → Nat) (row : List Nat) : ∀ (e i : Nat) (l : List Nat),(xIU f row l i e).length = l.length
  | 0,_,_ => rfl
  | e + 1,i,l => by rw [xIU,xOx f row e]; simp
theorem xRL (f : Nat → Nat) (row : List Nat) : ∀ (e i : Nat) (l : List Nat),i + e ≤ l.length → ∀ j,j < l.length → (xIU f row l i e).getD j 0 = if i ≤ j ∧ j < i + e then f (row.getD j 0) else l.getD j 0
  | 0,i,l,_,j,_ => by rw [xIU,if_neg (by omega)]
  | e + 1,i,l,h,j,hj => by
    rw [xIU,xRL f row e (i + 1) _ (by simp; omega) j (by simpa using hj)]
    by_cases c : i = j
    · subst c
      rw [if_neg (by omega),if_pos (by omega)]
      rw [List.getD_eq_getElem?_getD,List.getElem?_set_self hj]; rfl
    · by_cases c2 : i + 1 ≤ j ∧ j < i + 1 + e
      · rw [if_pos c2,if_pos (by omega)]
      · rw [if_neg c2,if_neg (by omega)]
        rw [List.getD_eq_getElem?_getD,List.getElem?_set_ne c,← List.getD_eq_getElem?_getD]
theorem xV7 (f : Nat → Nat) (row : List Nat) : xIU f row (List.replicate row.length 0) 0 row.length = row.map f := by
  apply List.ext_getElem
  · rw [xOx]; simp
  · intro j h1 h2
    have hj : j < row.length := by simpa using h2
    have := xRL f row row.length 0 (List.replicate row.length 0) (by simp) j (by simpa using hj)
    rw [if_pos (by omega),List.getD_eq_getElem?_getD,List.getElem?_eq_getElem h1,Option.getD_some] at this
    rw [this,List.getElem_map,List.getD_eq_getElem?_getD,List.getElem?_eq_getElem hj,Option.getD_some]
theorem yBW {p pc : Nat} {row cl : List Nat} {s1 s4 s5 s6 s7 s20 s21 s22 : AV} (hn : row.length < 1099511627) (hr : ∀ x ∈ row,x < cl.length) (hp : p ≠ pc) : ∀ e i (l : List Nat) (G : Heap),i + e = row.length → l.length = row.length → G[p]? = some (.cells false false (xAQ l)) → G[pc]? = some (.cells false false (xAQ cl)) →
    L.loop xMN xWT ⟨xMO s1 (.own false pc 0 cl.length 1) s4 s5 s6 s7 (.own false p 0 row.length 1) s20 s21 s22 (.sl false row.length (xAQ row)) (.int .i64 (row.length : Nat)) (.int .i64 (i : Nat)),G⟩ =
      some (.exit 4,⟨xMO s1 (.own false pc 0 cl.length 1) s4 s5 s6 s7 (.own false p 0 row.length 1) s20 s21 s22 (.sl false row.length (xAQ row)) (.int .i64 (row.length : Nat)) (.int .i64 (row.length : Nat)),G.set p (.cells false false (xAQ (xIU (fun t => cl.getD t 0) row l i e)))⟩) := by
  intro e
  induction e with
  | zero =>
    intro i l G hi hl g1 g2
    obtain rfl : i = row.length := by omega
    have hG := xBI g1
    have xCK : G.set p (.cells false false (xAQ l)) = G := by
      apply List.ext_getElem?
      intro b
      by_cases c : p = b
      · subst c; rw [xA5 hG,g1]
      · rw [xAR c]
    rw [xIU,xCK,xX3]
    simp (maxSteps := 30000000) (disch := first | assumption | omega | (simp only [WL,AV.isCell] <;> omega) | rfl | decide) only [↓reduceIte,WB,xAC,xAc,xAB,xAk,xAj,AV.cells,AV.isCell,xAb,xAf,xAg,WP,xAt,xAm,xA0,xAZ,xAX,xAq,xAv,xAu,W2,xAd,xAe,xAh,Nat.reduceAdd,Nat.reduceSub,Nat.reduceLeDiff,Nat.reduceMul,Int.reduceAdd,Int.reduceSub,Int.reduceMul,Int.reduceLT,Int.reduceLE,Int.reduceEq,Int.reduceToNat,Int.reduceNeg,Nat.reduceEqDiff,Nat.reduceBEq,Nat.reduceLT,xAW,xBs,xBv,xBR,xBS,xBP,xAR,xA5,xA9,xBa,rowI,rowB,List.length_map,List.set_set,xDs,xPN,xTA]
  | succ e ih =>
    intro i l G hi hl g1 g2
    have hG := xBI g1
    have hlt : ((i : Nat) : Int) < (row.length : Nat) := by omega
    have hi2 : i < row.length := by omega
    have hx := hr _ (xAA (a := 0) hi2)
    have hi3 : i < l.length := by omega
    have ih' := ih (i + 1) (l.set i (cl.getD (row.getD i 0) 0)) (G.set p (.cells false false (xAQ (l.set i (cl.getD (row.getD i 0) 0))))) (by omega) (by simpa using hl) (xA5 hG) (by rw [xAR hp,g2])
    rw [List.set_set] at ih'
    rw [xIU,xX3]
    simp (maxSteps := 30000000) (disch := first | assumption | omega | (simp only [WL,AV.isCell] <;> omega) | rfl | decide) only [↓reduceIte,WB,xAC,xAc,xAB,xAk,xAj,AV.cells,AV.isCell,xAb,xAf,xAg,WP,xAt,xAm,xA0,xAZ,xAX,xAq,xAv,xAu,W2,xAd,xAe,xAh,Nat.reduceAdd,Nat.reduceSub,Nat.reduceLeDiff,Nat.reduceMul,Int.reduceAdd,Int.reduceSub,Int.reduceMul,Int.reduceLT,Int.reduceLE,Int.reduceEq,Int.reduceToNat,Int.reduceNeg,Nat.reduceEqDiff,Nat.reduceBEq,Nat.reduceLT,xAW,xBs,xBv,xBR,xBS,xBP,xAR,xA5,xA9,xBa,rowI,rowB,List.length_map,List.set_set,xDs,xPN,xTA,hlt,hi2,g1,g2,hx,hi3,hl,ih']
theorem xK2 : ∀ {l : List Nat},(∀ x ∈ l,x < 100) → numsA (xAQ l) = some l
  | [],_ => rfl
  | n :: l,h => by
    have hn := h n (by simp)
    have ih := xK2 (l := l) (fun x hx => h x (by simp [hx]))
    have e : xAQ (n :: l) = .int .i64 (n : Nat) :: xAQ l := rfl
    rw [e,numsA,ih]
    simp
    omega
theorem yBX {z : Bool} {l : List Nat} (h : ∀ x ∈ l,x < 100) (hl : l.length ≤ 100000) : L.pcall 93 [.sl z l.length (xAQ l)] = some (.str ⟨(textA l).toArray⟩) := by
  refine xPm rfl ?_
  have e : primA 93 [.sl z l.length (xAQ l)] = (if l.length = (xAQ l).length ∧ l.length ≤ 100000 then (numsA (xAQ l)).map fun l => .str ⟨(textA l).toArray⟩ else none) := rfl
  rw [e,xK2 h,if_pos ⟨by rw [xAU],hl⟩]
  rfl
def by8 (w : List Nat) : List UInt8 := w.map UInt8.ofNat
theorem xRM : ∀ {w : List Nat},(∀ x ∈ w,x < 256) → xIM (bs w) = some (by8 w)
  | [],_ => rfl
  | n :: l,h => by
    have hn := h n (by simp)
    have ih := xRM (w := l) (fun x hx => h x (by simp [hx]))
    have e : bs (n :: l) = .int .u8 (n : Nat) :: bs l := rfl
    rw [e,xIM,ih]
    simp [by8]
theorem yAA {R : Rec} {F : List AV} {H : Heap} (x : Arg) : xAN R F H (.bstr x) = xDe H (xAa R F H (.bstr x)) := xB2 _ rfl
def sig (M : Ma) (cl : List Nat) (s : Nat) : Kpr := (by8 (M.emit.getD s []),textA ((M.next.getD s []).map fun t => cl.getD t 0))
def P69 (Q pr : Nat) (n : Nat) : Prop := Q < n ∧ n ≠ pr
structure RI (M : Ma) (cl : List Nat) (Q pc pr : Nat) (G : Heap) (ks : List Kpr) (rf : List Nat) : Prop where
  g0 : G[0]? = some (.cells false false M.cells)
  gc : G[pc]? = some (.cells false false (xAQ cl))
  gr : G[pr]? = some (.cells false false (xAQ rf))
  q : QS (P69 Q pr) Q G ks
  c0 : 0 < pc
  cq : pc < Q
  qr : Q < pr
  nl : cl.length = M.next.length
  rl : rf.length = M.next.length
  cb : ∀ x ∈ cl,x < 100
section
variable {M : Ma} {cl rf : List Nat} {Q pc pr s : Nat} {G : Heap} {ks : List Kpr} {c : AV}
theorem QS.app {P : Nat → Prop} {T : Nat} (h : QS P T G ks) (l : List Blk) : QS P T (G ++ l) ks := by
  obtain ⟨mv,lv,q1,q2⟩ := h
  refine ⟨mv,lv,by rw [xAW (xBI q1),q1],?_⟩
  rcases q2 with q2 | ⟨q,p,e1,e2,p1,p2,m1,m2⟩
  · exact .inl q2
  · exact .inr ⟨q,p,e1,e2,p1,p2,by rw [xAW (xBI m1),m1],by rw [xAW (xBI m2),m2]⟩
theorem QS.setr {T r : Nat} (h : QS (P69 T r) T G ks) (hr : T < r) (b : Blk) : QS (P69 T r) T (G.set r b) ks := by
  obtain ⟨mv,lv,q1,q2⟩ := h
  refine ⟨mv,lv,by rw [xAR (by omega),q1],?_⟩
  rcases q2 with q2 | ⟨q,p,e1,e2,p1,p2,m1,m2⟩
  · exact .inl q2
  · exact .inr ⟨q,p,e1,e2,p1,p2,by rw [xAR (fun e => p1.2 e.symm),m1],by rw [xAR (fun e => p2.2 e.symm),m2]⟩
abbrev F69 (pc Q pr : Nat) (cn : Nat) (M : Ma) (c : AV) (s : Nat) : List AV := xMQ (.ptr 0 0) (.own false pc 0 cn 1) c (.ptr Q 0) (.own false pr 0 cn 1) (.sl false M.next.length (M.next.map rowI)) (.int .i64 (M.next.length : Nat)) (.int .i64 (s : Nat))
theorem xV8 {P : Nat → Prop} {T : Nat} {k : Kpr} (hT : ¬ P T) (hB : ∀ n,G.length ≤ n → P n) (h : QS P T G ks) (hl : ks.length < 1099511627) :
    ∃ G' b,L.icall (.func 92 []) [.ptr T 0,kvS k] G = some (.tup [.int .i64 (pos k (if k ∈ ks then ks else ks ++ [k]) : Nat),.bool b],G') ∧ QS P T G' (if k ∈ ks then ks else ks ++ [k]) ∧ KtP P T G G' := by
  by_cases hk : k ∈ ks
  · obtain ⟨G',e1,e2,e3⟩ := xV3 hT hB h hk hl
    rw [if_pos hk]
    exact ⟨G',false,e1,e2,e3⟩
  · obtain ⟨G',e1,e2,e3⟩ := xV2 hT hB h hk hl
    rw [if_neg hk]
    have hp : ∀ l : List Kpr,k ∉ l → pos k (l ++ [k]) = l.length := by
      intro l
      induction l with
      | nil => intro _; simp [pos]
      | cons a t ih =>
        intro hn
        rw [List.cons_append,pos,if_neg (fun e => hn (by simp [e])),ih (fun e => hn (by simp [e])),List.length_cons]
    rw [hp ks hk]
    exact ⟨G',true,e1,e2,e3⟩
set_option maxHeartbeats 2000000 in
theorem yAB (hV : Vm M) (h : RI M cl Q pc pr G ks rf) (hs : s < M.next.length) (hl : ks.length < 1099511627) :
    ∃ G',L.loop xE5 xMP ⟨F69 pc Q pr M.next.length M c s,G⟩ = L.loop xE5 xMP ⟨F69 pc Q pr M.next.length M c (s + 1),G'⟩ ∧
      RI M cl Q pc pr G' (if sig M cl s ∈ ks then ks else ks ++ [sig M cl s]) (rf.set s (pos (sig M cl s) (if sig M cl s ∈ ks then ks else ks ++ [sig M cl s]))) := by
  obtain ⟨g0,gc,gr,hq,c0,cq,qr,hcl,hrl,hcb⟩ := h
  have e0 := xBI g0
  have ec := xBI gc
  have er := xBI gr
  have hn := hV.n9
  have hrow := hV.nl hs
  have h64 : two M.i ≤ 64 := by have := xIA (show M.i ≤ 6 by have := hV.io; omega); have : two 6 = 64 := rfl; omega
  have hrb := hV.rb _ (xAA (a := []) hs)
  have hwb := hV.wb _ (xAA (a := []) (show s < M.emit.length by rw [hV.el]; exact hs))
  have ho : two M.o ≤ 64 := by have := xIA (show M.o ≤ 6 by have := hV.io; omega); have : two 6 = 64 := rfl; omega
  have hu := xRM (w := M.emit.getD s []) (fun x hx => by have := hwb x hx; omega)
  have hfill := yBW (p := G.length) (pc := pc) (row := M.next.getD s []) (cl := cl) (s1 := .ptr 0 0) (s4 := c) (s5 := .ptr Q 0) (s6 := .own false pr 0 M.next.length 1) (s7 := .int .i64 (s : Nat)) (s20 := .sl false M.next.length (M.next.map rowI)) (s21 := .int .i64 (M.next.length : Nat)) (s22 := .int .i64 (s : Nat)) (by omega) (fun x hx => by rw [hcl]; exact hrb x hx) (by omega) (M.next.getD s []).length 0 (List.replicate (M.next.getD s []).length 0) (G ++ [.cells false false (xAQ (List.replicate (M.next.getD s []).length 0))]) (by omega) (by simp) (by rw [xBv rfl]; rfl) (by rw [xAW ec,gc])
  rw [xV7,xBP rfl,hcl,hrow] at hfill
  simp only [Int.natCast_zero,List.set_cons_zero] at hfill
  have htx := yBX (z := false) (l := (M.next.getD s []).map fun t => cl.getD t 0) (by
    intro x hx
    obtain ⟨t,ht,rfl⟩ := List.mem_map.1 hx
    exact hcb _ (xAA (by rw [hcl]; exact hrb t ht))) (by rw [List.length_map]; omega)
  rw [List.length_map,hrow] at htx
  obtain ⟨G1,b,k1,k2,k3⟩ := xV8 (P := P69 Q pr) (T := Q) (k := sig M cl s) (G := G ++ [.cells false false (xAQ ((M.next.getD s []).map fun t => cl.getD t 0))]) (fun e => by have := e.1; omega) (fun n e => by simp at e; exact ⟨by omega,by omega⟩) (hq.app _) hl
  generalize hk : (if sig M cl s ∈ ks then ks else ks ++ [sig M cl s]) = ks' at *
  generalize hpo : pos (sig M cl s) ks' = n at *
  have f0 := (k3.2 0 (fun e => by have := e.1; omega) (by omega))
  have fc := (k3.2 pc (fun e => by have := e.1; omega) (by omega))
  have fr := (k3.2 pr (fun e => e.2 rfl) (by omega))
  rw [xAW e0,g0] at f0
  rw [xAW ec,gc] at fc
  rw [xAW er,gr] at fr
  have er' := xBI fr
  refine ⟨G1.set pr (.cells false false (xAQ (rf.set s n))),?_,⟨by rw [xAR (by omega),f0],by rw [xAR (by omega),fc],xA5 er',k2.setr qr _,c0,cq,qr,hcl,by simpa using hrl,hcb⟩⟩
  have l5 := hV.el
  have htk : List.take (two M.i) ((M.next.getD s []).map fun t => cl.getD t 0) = (M.next.getD s []).map fun t => cl.getD t 0 := List.take_of_length_le (by rw [List.length_map]; omega)
  have hlt : ((s : Nat) : Int) < (M.next.length : Nat) := by omega
  have hs2 : s < M.emit.length := by omega
  have hs3 : s < rf.length := by omega
  simp only [kvS,sig,by8] at k1
  simp only [by8] at hu
  unfold Ma.cells at g0 f0
  rw [xX4]
  simp (maxSteps := 30000000) (disch := first | assumption | omega | (simp only [WL,AV.isCell] <;> omega) | rfl | decide) only [↓reduceIte,WB,xAC,xAc,xAB,xAk,xAj,AV.cells,AV.isCell,xAb,xAf,xAg,WP,xAt,xAm,xA0,xAZ,xAX,xAq,xAv,xAu,WM,W2,xAd,xAe,xAh,Nat.reduceAdd,Nat.reduceSub,Nat.reduceLeDiff,Nat.reduceMul,Int.reduceAdd,Int.reduceSub,Int.reduceMul,Int.reduceLT,Int.reduceLE,Int.reduceEq,Int.reduceToNat,Int.reduceNeg,Nat.reduceEqDiff,Nat.reduceBEq,Nat.reduceLT,xAW,xBs,xBv,xBR,xBS,xBP,xAR,xA5,xA9,xBa,rowI,rowB,List.length_map,List.set_set,xDs,xPd,yAA,xEc,xFQ,xPO,xJG,xTA,hlt,hs,hs2,hs3,g0,gc,gr,hrow,hfill,hu,htx,htk,k1,f0,fc,fr,hrl,l5]
end
def xFY (M : Ma) (cl : List Nat) (st : List Kpr × List Nat) (s : Nat) : List Kpr × List Nat :=
  (if sig M cl s ∈ st.1 then st.1 else st.1 ++ [sig M cl s],st.2.set s (pos (sig M cl s) (if sig M cl s ∈ st.1 then st.1 else st.1 ++ [sig M cl s])))
theorem xOy (M : Ma) (cl : List Nat) (st : List Kpr × List Nat) (s : Nat) : (xFY M cl st s).1.length ≤ st.1.length + 1 := by
  unfold xFY
  split
  · simp
  · simp
section
variable {M : Ma} {cl : List Nat} {Q pc pr : Nat} {c : AV}
set_option maxHeartbeats 1000000 in
theorem xSw {G : Heap} : L.loop xE5 xMP ⟨F69 pc Q pr M.next.length M c M.next.length,G⟩ = some (.exit 2,⟨F69 pc Q pr M.next.length M c M.next.length,G⟩) := by
  rw [xX4]
  simp (maxSteps := 30000000) (disch := first | assumption | omega | (simp only [WL,AV.isCell] <;> omega) | rfl | decide) only [↓reduceIte,WB,xAC,xAc,xAB,xAk,xAj,AV.cells,AV.isCell,xAb,xAf,xAg,WP,xAt,xAm,xA0,xAZ,xAX,xAq,xAv,xAu,WM,W2,xAd,xAe,xAh,Nat.reduceAdd,Nat.reduceSub,Nat.reduceLeDiff,Nat.reduceMul,Int.reduceAdd,Int.reduceSub,Int.reduceMul,Int.reduceLT,Int.reduceLE,Int.reduceEq,Int.reduceToNat,Int.reduceNeg,Nat.reduceEqDiff,Nat.reduceBEq,Nat.reduceLT,xAW,xBs,xBv,xBR,xBS,xBP,xAR,xA5,List.length_map,List.set_set,xPO,xJG]
theorem yBY (hV : Vm M) : ∀ e s (G : Heap) (ks : List Kpr) (rf : List Nat),s + e = M.next.length → ks.length ≤ s → RI M cl Q pc pr G ks rf →
    ∃ G',L.loop xE5 xMP ⟨F69 pc Q pr M.next.length M c s,G⟩ = some (.exit 2,⟨F69 pc Q pr M.next.length M c M.next.length,G'⟩) ∧
      RI M cl Q pc pr G' ((List.range' s e).foldl (xFY M cl) (ks,rf)).1 ((List.range' s e).foldl (xFY M cl) (ks,rf)).2 := by
  intro e
  induction e with
  | zero =>
    intro s G ks rf hs hk h
    obtain rfl : s = M.next.length := by omega
    exact ⟨G,xSw,h⟩
  | succ e ih =>
    intro s G ks rf hs hk h
    have hn := hV.n9
    obtain ⟨G1,e1,e2⟩ := yAB (c := c) hV h (s := s) (by omega) (by omega)
    have hl := xOy M cl (ks,rf) s
    obtain ⟨G2,e3,e4⟩ := ih (s + 1) G1 (xFY M cl (ks,rf) s).1 (xFY M cl (ks,rf) s).2 (by omega) (by simp only at hl; omega) e2
    exact ⟨G2,e1.trans e3,e4⟩
end
def xK3 (M : Ma) (cl : List Nat) : List Kpr × List Nat := (List.range M.next.length).foldl (xFY M cl) ([],List.replicate M.next.length 0)
structure CI (M : Ma) (cl : List Nat) (pc : Nat) (G : Heap) : Prop where
  g0 : G[0]? = some (.cells false false M.cells)
  gc : G[pc]? = some (.cells false false (xAQ cl))
  c0 : 0 < pc
  nl : cl.length = M.next.length
  cb : ∀ x ∈ cl,x < 100
section
variable {M : Ma} {cl : List Nat} {pc : Nat} {G : Heap} {s2 : AV} {cnt : Nat}
theorem CI.start (h : CI M cl pc G) : RI M cl G.length pc (G.length + 1) (G ++ [.cells false false [.nilm,.sl true 0 []],.cells false false (xAQ (List.replicate M.next.length 0))]) [] (List.replicate M.next.length 0) := by
  have h0 := xBI h.g0
  have hc := xBI h.gc
  exact ⟨by rw [xAW h0,h.g0],by rw [xAW hc,h.gc],by rw [xBs rfl]; rfl,⟨.nilm,.sl true 0 [],by rw [xBv rfl]; rfl,.inl ⟨rfl,rfl,rfl⟩⟩,h.c0,hc,by omega,h.nl,by simp,h.cb⟩
theorem QS.len {P : Nat → Prop} {T : Nat} {ks : List Kpr} (h : QS P T G ks) : ∃ mv lv,G[T]? = some (.cells false false [mv,lv]) ∧ ((lv = .sl true 0 [] ∧ ks = []) ∨ ∃ p,lv = .own false p 0 ks.length 2) := by
  obtain ⟨mv,lv,q1,q2⟩ := h
  refine ⟨mv,lv,q1,?_⟩
  rcases q2 with ⟨_,a,b⟩ | ⟨q,p,_,a,_⟩
  · exact .inl ⟨a,b⟩
  · exact .inr ⟨p,a⟩
abbrev yAF (s2 : AV) (pc n cnt : Nat) : List AV := xMS (.ptr 0 0) s2 (.own false pc 0 n 1) (.int .i64 (cnt : Nat))
set_option maxHeartbeats 2000000 in
theorem yC5 (hV : Vm M) (h : CI M cl pc G) : ∃ G',RI M cl G.length pc (G.length + 1) G' (xK3 M cl).1 (xK3 M cl).2 ∧
    ((xK3 M cl).1.length = cnt → L.loop xE6 xMR ⟨yAF s2 pc M.next.length cnt,G⟩ = some (.ret,⟨yAF (.own false (G.length + 1) 0 M.next.length 1) (G.length + 1) M.next.length cnt,G'⟩)) ∧
    ((xK3 M cl).1.length ≠ cnt → L.loop xE6 xMR ⟨yAF s2 pc M.next.length cnt,G⟩ = L.loop xE6 xMR ⟨yAF .any (G.length + 1) M.next.length (xK3 M cl).1.length,G'⟩) := by
  obtain ⟨G',e1,e2⟩ := yBY (c := .int .i64 (cnt : Nat)) hV M.next.length 0 _ [] _ (by omega) (by simp) h.start
  rw [← List.range_eq_range'] at e2
  refine ⟨G',e2,?_⟩
  have hn := hV.n9
  have g0 := h.g0
  have hG := xBI g0
  have g0' := e2.g0
  obtain ⟨mv,lv,q1,q2⟩ := e2.q.len
  unfold Ma.cells at g0 g0'
  change L.loop xE5 xMP ⟨xMQ (.ptr 0 0) (.own false pc 0 M.next.length 1) (.int .i64 (cnt : Nat)) (.ptr G.length 0) (.own false (G.length + 1) 0 M.next.length 1) (.sl false M.next.length (M.next.map rowI)) (.int .i64 (M.next.length : Nat)) (.int .i64 0),_⟩ = _ at e1
  unfold xK3
  generalize ((List.range M.next.length).foldl (xFY M cl) ([],List.replicate M.next.length 0)).1 = ks at *
  have hz : xAQ (List.replicate M.next.length 0) = List.replicate M.next.length (.int .i64 0) := by unfold xAQ; simp
  rcases q2 with ⟨rfl,rfl⟩ | ⟨p,rfl⟩
  · constructor
    · intro hc
      have hc' : ((0 : Int) = (cnt : Nat)) ↔ True := iff_true_intro (by simp at hc; omega)
      rw [xPP]
      simp (maxSteps := 30000000) (disch := first | assumption | omega | (simp only [WL,AV.isCell] <;> omega) | rfl | decide) only [↓reduceIte,WB,xAC,xAc,xAB,xAk,xAj,AV.cells,AV.isCell,xAb,xAf,xAg,WP,xAt,xAm,xA0,xAZ,xAX,xAq,xAv,xAu,WM,W2,xAd,xAe,xAh,Nat.reduceAdd,Nat.reduceSub,Nat.reduceLeDiff,Nat.reduceMul,Int.reduceAdd,Int.reduceSub,Int.reduceMul,Int.reduceLT,Int.reduceLE,Int.reduceEq,Int.reduceToNat,Int.reduceNeg,Nat.reduceEqDiff,Nat.reduceBEq,Nat.reduceLT,xAW,xBs,xBv,xBR,xBS,xBP,xAR,xA5,List.length_map,List.set_set,xJH,xMT,xJG,g0,e1,g0',q1,hc']
    · intro hc
      have hc' : ¬ (0 : Int) = (cnt : Nat) := by simp at hc; omega
      rw [xPP]
      simp (maxSteps := 30000000) (disch := first | assumption | omega | (simp only [WL,AV.isCell] <;> omega) | rfl | decide) only [↓reduceIte,WB,xAC,xAc,xAB,xAk,xAj,AV.cells,AV.isCell,xAb,xAf,xAg,WP,xAt,xAm,xA0,xAZ,xAX,xAq,xAv,xAu,WM,W2,xAd,xAe,xAh,Nat.reduceAdd,Nat.reduceSub,Nat.reduceLeDiff,Nat.reduceMul,Int.reduceAdd,Int.reduceSub,Int.reduceMul,Int.reduceLT,Int.reduceLE,Int.reduceEq,Int.reduceToNat,Int.reduceNeg,Nat.reduceEqDiff,Nat.reduceBEq,Nat.reduceLT,xAW,xBs,xBv,xBR,xBS,xBP,xAR,xA5,List.length_map,List.set_set,xJH,xMT,xJG,g0,e1,g0',q1,hc']
      rfl
  · constructor
    · intro hc
      subst hc
      rw [xPP]
      simp (maxSteps := 30000000) (disch := first | assumption | omega | (simp only [WL,AV.isCell] <;> omega) | rfl | decide) only [↓reduceIte,WB,xAC,xAc,xAB,xAk,xAj,AV.cells,AV.isCell,xAb,xAf,xAg,WP,xAt,xAm,xA0,xAZ,xAX,xAq,xAv,xAu,WM,W2,xAd,xAe,xAh,Nat.reduceAdd,Nat.reduceSub,Nat.reduceLeDiff,Nat.reduceMul,Int.reduceAdd,Int.reduceSub,Int.reduceMul,Int.reduceLT,Int.reduceLE,Int.reduceEq,Int.reduceToNat,Int.reduceNeg,Nat.reduceEqDiff,Nat.reduceBEq,Nat.reduceLT,xAW,xBs,xBv,xBR,xBS,xBP,xAR,xA5,List.length_map,List.set_set,xJH,xMT,xJG,g0,e1,g0',q1]
    · intro hc
      have hc' : ¬ ((ks.length : Nat) : Int) = (cnt : Nat) := by omega
      rw [xPP]
      simp (maxSteps := 30000000) (disch := first | assumption | omega | (simp only [WL,AV.isCell] <;> omega) | rfl | decide) only [↓reduceIte,WB,xAC,xAc,xAB,xAk,xAj,AV.cells,AV.isCell,xAb,xAf,xAg,WP,xAt,xAm,xA0,xAZ,xAX,xAq,xAv,xAu,WM,W2,xAd,xAe,xAh,Nat.reduceAdd,Nat.reduceSub,Nat.reduceLeDiff,Nat.reduceMul,Int.reduceAdd,Int.reduceSub,Int.reduceMul,Int.reduceLT,Int.reduceLE,Int.reduceEq,Int.reduceToNat,Int.reduceNeg,Nat.reduceEqDiff,Nat.reduceBEq,Nat.reduceLT,xAW,xBs,xBv,xBR,xBS,xBP,xAR,xA5,List.length_map,List.set_set,xJH,xMT,xJG,g0,e1,g0',q1,hc']
end
theorem xLS {α : Type} [DecidableEq α] {a : α} : ∀ {l : List α} (r : List α),a ∈ l → pos a (l ++ r) = pos a l
  | [],r,h => by simp at h
  | b :: t,r,h => by
    rw [List.cons_append,pos,pos]
    by_cases e : a = b
    · rw [if_pos e,if_pos e]
    · rw [if_neg e,if_neg e,xLS r (by rcases List.mem_cons.1 h with h | h; exact absurd h e; exact h)]
structure FI (M : Ma) (cl : List Nat) (s : Nat) (st : List Kpr × List Nat) : Prop where
  nd : st.1.Nodup
  mem : ∀ j,j < s → sig M cl j ∈ st.1
  num : ∀ j,j < s → st.2.getD j 0 = pos (sig M cl j) st.1
  of : ∀ k ∈ st.1,∃ j,j < s ∧ k = sig M cl j
  len : st.2.length = M.next.length
theorem FI.step {M : Ma} {cl : List Nat} {s : Nat} {st : List Kpr × List Nat} (h : FI M cl s st) (hs : s < M.next.length) : FI M cl (s + 1) (xFY M cl st s) := by
  have hlt : s < st.2.length := by rw [h.len]; exact hs
  have hself : ∀ x,(st.2.set s x).getD s 0 = x := fun x => by rw [List.getD_eq_getElem?_getD,List.getElem?_set_self hlt]; rfl
  have hne : ∀ x j,j ≠ s → (st.2.set s x).getD j 0 = st.2.getD j 0 := fun x j hj => by rw [List.getD_eq_getElem?_getD,List.getElem?_set_ne (fun e => hj e.symm),← List.getD_eq_getElem?_getD]
  unfold xFY
  by_cases hm : sig M cl s ∈ st.1
  · rw [if_pos hm]
    refine ⟨h.nd,?_,?_,?_,by simpa using h.len⟩
    · intro j hj
      by_cases e : j = s
      · subst e; exact hm
      · exact h.mem j (by omega)
    · intro j hj
      by_cases e : j = s
      · subst e; exact hself _
      · exact (hne _ j e).trans (h.num j (by omega))
    · intro k hk
      obtain ⟨j,hj,e⟩ := h.of k hk
      exact ⟨j,by omega,e⟩
  · rw [if_neg hm]
    refine ⟨?_,?_,?_,?_,by simpa using h.len⟩
    · rw [List.nodup_append]
      refine ⟨h.nd,by simp,?_⟩
      intro a ha b hb e
      rw [List.mem_singleton] at hb
      exact hm (hb ▸ e ▸ ha)
    · intro j hj
      by_cases e : j = s
      · subst e; simp
      · exact List.mem_append_left _ (h.mem j (by omega))
    · intro j hj
      by_cases e : j = s
      · subst e; exact hself _
      · refine (hne _ j e).trans ((h.num j (by omega)).trans ?_)
        exact (xLS _ (h.mem j (by omega))).symm
    · intro k hk
      rcases List.mem_append.1 hk with hk | hk
      · obtain ⟨j,hj,e⟩ := h.of k hk
        exact ⟨j,by omega,e⟩
      · rw [List.mem_singleton] at hk
        exact ⟨s,by omega,hk⟩
theorem FI.all {M : Ma} {cl : List Nat} : ∀ (e s : Nat) (st : List Kpr × List Nat),s + e = M.next.length → FI M cl s st → FI M cl M.next.length ((List.range' s e).foldl (xFY M cl) st)
  | 0,s,st,h,hf => by
    obtain rfl : s = M.next.length := by omega
    exact hf
  | e + 1,s,st,h,hf => by
    rw [List.range'_succ,List.foldl_cons]
    exact FI.all e (s + 1) _ (by omega) (hf.step (by omega))
theorem xLT (M : Ma) (cl : List Nat) : FI M cl M.next.length (xK3 M cl) := by
  unfold xK3
  rw [List.range_eq_range']
  refine FI.all M.next.length 0 _ (by omega) ⟨by simp,?_,?_,by simp,by simp⟩
  · intro j hj; omega
  · intro j hj; omega
theorem yAC (M : Ma) (cl : List Nat) {s t : Nat} (hs : s < M.next.length) (ht : t < M.next.length) : (xK3 M cl).2.getD s 0 = (xK3 M cl).2.getD t 0 ↔ sig M cl s = sig M cl t := by
  have h := xLT M cl
  rw [h.num s hs,h.num t ht]
  constructor
  · intro e
    have h1 := xOi (d := (([],[]) : Kpr)) (h.mem s hs)
    have h2 := xOi (d := (([],[]) : Kpr)) (h.mem t ht)
    rw [← h1,← h2,e]
  · intro e; rw [e]
theorem xIH (M : Ma) (cl : List Nat) {s : Nat} (hs : s < M.next.length) : (xK3 M cl).2.getD s 0 < (xK3 M cl).1.length := by
  have h := xLT M cl
  rw [h.num s hs]
  exact xOh (h.mem s hs)
theorem xPk : ∀ n < 10,∀ m < 10,UInt8.ofNat (48 + n) = UInt8.ofNat (48 + m) → n = m := by decide
theorem xY8 : ∀ n < 10,UInt8.ofNat (48 + n) ≠ 32 := by decide
theorem xSx {n m : Nat} {x y : List UInt8} (hn : n < 100) (hm : m < 100) (h : dec2 n ++ 32 :: x = dec2 m ++ 32 :: y) : n = m ∧ x = y := by
  unfold dec2 at h
  by_cases c1 : n < 10
  · rw [if_pos c1] at h
    by_cases c2 : m < 10
    · rw [if_pos c2] at h
      simp only [List.cons_append,List.nil_append,List.cons.injEq,true_and] at h
      exact ⟨xPk n c1 m c2 h.1,h.2⟩
    · rw [if_neg c2] at h
      simp only [List.cons_append,List.nil_append,List.cons.injEq] at h
      exact absurd h.2.1.symm (xY8 _ (by omega))
  · rw [if_neg c1] at h
    by_cases c2 : m < 10
    · rw [if_pos c2] at h
      simp only [List.cons_append,List.nil_append,List.cons.injEq] at h
      exact absurd h.2.1 (xY8 _ (by omega))
    · rw [if_neg c2] at h
      simp only [List.cons_append,List.nil_append,List.cons.injEq,true_and] at h
      have h1 := xPk (n / 10) (by omega) (m / 10) (by omega) h.1
      have h2 := xPk (n % 10) (by omega) (m % 10) (by omega) h.2.1
      exact ⟨by omega,h.2.2⟩
theorem xEe (n : Nat) (l : List Nat) : textA (n :: l) = dec2 n ++ 32 :: textA l := by
  unfold textA
  rw [List.flatMap_cons,List.append_assoc]; rfl
theorem xOz : ∀ {l r : List Nat},(∀ x ∈ l,x < 100) → (∀ x ∈ r,x < 100) → textA l = textA r → l = r
  | [],[],_,_,_ => rfl
  | [],m :: r,_,_,h => by
    rw [xEe] at h
    have : (textA []).length = 0 := rfl
    rw [h] at this
    simp at this
  | n :: l,[],_,_,h => by
    rw [xEe] at h
    have : (textA []).length = 0 := rfl
    rw [← h] at this
    simp at this
  | n :: l,m :: r,h1,h2,h => by
    rw [xEe,xEe] at h
    obtain ⟨rfl,e⟩ := xSx (h1 n (by simp)) (h2 m (by simp)) h
    rw [xOz (fun x hx => h1 x (by simp [hx])) (fun x hx => h2 x (by simp [hx])) e]
theorem xV9 : ∀ {l r : List Nat},(∀ x ∈ l,x < 256) → (∀ x ∈ r,x < 256) → by8 l = by8 r → l = r
  | [],[],_,_,_ => rfl
  | [],m :: r,_,_,h => by simp [by8] at h
  | n :: l,[],_,_,h => by simp [by8] at h
  | n :: l,m :: r,h1,h2,h => by
    simp only [by8,List.map_cons,List.cons.injEq] at h
    have e := congrArg UInt8.toNat h.1
    have a := h1 n (by simp)
    have b := h2 m (by simp)
    rw [UInt8.toNat_ofNat',UInt8.toNat_ofNat'] at e
    have : n = m := by omega
    subst this
    rw [xV9 (fun x hx => h1 x (by simp [hx])) (fun x hx => h2 x (by simp [hx])) h.2]
theorem yBZ {M : Ma} {cl : List Nat} (hV : Vm M) (hl : cl.length = M.next.length) (hc : ∀ x ∈ cl,x < 100) {s t : Nat} (hs : s < M.next.length) (ht : t < M.next.length) :
    sig M cl s = sig M cl t ↔ M.emit.getD s [] = M.emit.getD t [] ∧ ∀ i,i < two M.i → cl.getD (nx M s i) 0 = cl.getD (nx M t i) 0 := by
  have hel := hV.el
  have ho : two M.o ≤ 64 := by have := xIA (show M.o ≤ 6 by have := hV.io; omega); have : two 6 = 64 := rfl; omega
  have eb : ∀ u,u < M.next.length → ∀ x ∈ M.emit.getD u [],x < 256 := fun u hu x hx => by have := hV.wb _ (xAA (a := []) (show u < M.emit.length by omega)) x hx; omega
  have nb : ∀ u,u < M.next.length → ∀ x ∈ (M.next.getD u []).map fun t => cl.getD t 0,x < 100 := by
    intro u hu x hx
    obtain ⟨y,hy,rfl⟩ := List.mem_map.1 hx
    exact hc _ (xAA (by rw [hl]; exact hV.rb _ (xAA (a := []) hu) y hy))
  have l1 := hV.nl hs
  have l2 := hV.nl ht
  unfold sig
  constructor
  · intro h
    injection h with h1 h2
    refine ⟨xV9 (eb s hs) (eb t ht) h1,?_⟩
    have h3 := xOz (nb s hs) (nb t ht) h2
    intro i hi
    unfold nx
    generalize M.next.getD s [] = a at *
    generalize M.next.getD t [] = b at *
    have hia : i < a.length := by omega
    have hib : i < b.length := by omega
    have := congrArg (fun l => l[i]?) h3
    simp only [List.getElem?_map,List.getElem?_eq_getElem hia,List.getElem?_eq_getElem hib,Option.map_some,Option.some.injEq] at this
    rw [List.getD_eq_getElem?_getD (l := a),List.getElem?_eq_getElem hia,List.getD_eq_getElem?_getD (l := b),List.getElem?_eq_getElem hib]
    exact this
  · rintro ⟨h1,h2⟩
    rw [h1]
    congr 2
    apply List.ext_getElem
    · simp only [List.length_map]; omega
    · intro i a b
      simp only [List.length_map] at a b
      have := h2 i (by omega)
      unfold nx at this
      rw [List.getElem_map,List.getElem_map]
      rw [List.getD_eq_getElem?_getD (l := M.next.getD s []),List.getD_eq_getElem?_getD (l := M.next.getD t []),List.getElem?_eq_getElem a,List.getElem?_eq_getElem b] at this
      exact this
def clK (M : Ma) : Nat → List Nat
  | 0 => List.replicate M.next.length 0
  | k + 1 => (xK3 M (clK M k)).2
theorem xLU (M : Ma) (cl : List Nat) : (xK3 M cl).1.length ≤ M.next.length := by
  have h : ∀ (e s : Nat) (st : List Kpr × List Nat),((List.range' s e).foldl (xFY M cl) st).1.length ≤ st.1.length + e := by
    intro e
    induction e with
    | zero => intro s st; exact Nat.le_refl _
    | succ e ih =>
      intro s st
      rw [List.range'_succ,List.foldl_cons]
      have a := ih (s + 1) (xFY M cl st s)
      have b := xOy M cl st s
      omega
  have := h M.next.length 0 ([],List.replicate M.next.length 0)
  unfold xK3
  rw [List.range_eq_range']
  simpa using this
theorem xEF (M : Ma) : ∀ k,(clK M k).length = M.next.length
  | 0 => by simp [clK]
  | k + 1 => (xLT M (clK M k)).len
theorem xWa {M : Ma} (hn : M.next.length ≤ 100) (h0 : 0 < M.next.length) : ∀ k,∀ x ∈ clK M k,x < 100
  | 0 => by
    intro x hx
    have := (List.mem_replicate.1 hx).2
    omega
  | k + 1 => by
    intro x hx
    obtain ⟨s,hs,rfl⟩ := List.getElem_of_mem hx
    have hs' : s < M.next.length := by rw [← xEF M (k + 1)]; exact hs
    have a := xIH M (clK M k) hs'
    have b := xLU M (clK M k)
    have e : (xK3 M (clK M k)).2.getD s 0 = (clK M (k + 1))[s] := by
      rw [List.getD_eq_getElem?_getD]
      show ((clK M (k + 1))[s]?).getD 0 = _
      rw [List.getElem?_eq_getElem hs]; rfl
    omega
def xK4 (M : Ma) (k s t : Nat) : Prop := (clK M k).getD s 0 = (clK M k).getD t 0
theorem xFq {M : Ma} (hV : Vm M) (hn : M.next.length ≤ 100) {k s t : Nat} (hs : s < M.next.length) (ht : t < M.next.length) : xK4 M (k + 1) s t ↔ M.emit.getD s [] = M.emit.getD t [] ∧ ∀ i,i < two M.i → xK4 M k (nx M s i) (nx M t i) := by
  have h1 := yAC M (clK M k) hs ht
  have h2 := yBZ hV (xEF M k) (xWa hn hV.n0 k) hs ht
  exact h1.trans h2
theorem xFr {M : Ma} (hV : Vm M) (hn : M.next.length ≤ 100) : ∀ (k s t : Nat),s < M.next.length → t < M.next.length → xK4 M (k + 1) s t → xK4 M k s t
  | 0,s,t,hs,ht,_ => by
    unfold xK4 clK
    simp only [List.getD_eq_getElem?_getD,List.getElem?_replicate,hs,ht,if_true]
  | k + 1,s,t,hs,ht,h => by
    obtain ⟨a,b⟩ := (xFq hV hn hs ht).1 h
    exact (xFq hV hn hs ht).2 ⟨a,fun i hi => xFr hV hn k _ _ (hV.nx hs hi) (hV.nx ht hi) (b i hi)⟩
end Go.Abs.Mealy
