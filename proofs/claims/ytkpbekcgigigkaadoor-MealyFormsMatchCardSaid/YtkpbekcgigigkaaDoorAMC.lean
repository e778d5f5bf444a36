/- (queue[[2]int]).put. -/
import Derived.Test.YtkpbekcgigigkaaDoorAbsBun
import Derived.Test.YtkpbekcgigigkaaDoorAMB
import Derived.Test.YtkpbekcgigigkaaDoorAbsLim
import Derived.Test.YtkpbekcgigigkaaDoorAMA
namespace Go.Abs.Mealy
open Go Go.Abs
set_option linter.unusedSimpArgs false
set_option linter.unusedVariables false
theorem xQb (H : Heap) (id : Nat) (v : AV) (es : List (AV × AV)) : yEe H id 0 v (some es) = yGc H id 0 v es es[0]? := rfl
def KtP (P : Nat → Prop) (T : Nat) (G G' : Heap) : Prop := G.length ≤ G'.length ∧ ∀ b,¬ P b → b ≠ T → G'[b]? = G[b]?
def QI (P : Nat → Prop) (T : Nat) (G : Heap) (ks : List (Nat × Nat)) : Prop :=
 ∃ mv lv,G[T]? = some (.cells false false [mv,lv]) ∧
  ((mv = .nilm ∧ lv = .sl true 0 [] ∧ ks = []) ∨ ∃ q p,mv = .mp q ∧ lv = .own false p 0 ks.length 2 ∧ P q ∧ P p ∧ G[q]? = some (.mp (ent kv2 ks 0)) ∧ G[p]? = some (.cells false false (pcs ks)))
section
variable {P : Nat → Prop} {T : Nat} {G : Heap} {ks : List (Nat × Nat)} {k : Nat × Nat}
theorem pcs_snoc' (l : List (Nat × Nat)) (a b : Nat) : pcs l ++ [.int .i64 (a : Nat),.int .i64 (b : Nat)] = pcs (l ++ [(a,b)]) := xTB l (a,b)
theorem yAL (l : List (Nat × Nat)) : List.take (l.length * 2) (pcs l) = pcs l := List.take_of_length_le (by rw [xAe]; exact Nat.le_refl _)
set_option maxHeartbeats 1000000 in
theorem xYv (hT : ¬ P T) (hB : ∀ n,G.length ≤ n → P n) (h : QI P T G ks) (hk : k ∉ ks) (hl : ks.length < 1099511627) :
  ∃ G',L.icall (.func 74 []) [.ptr T 0,kv2 k] G = some (.tup [.int .i64 (ks.length : Nat),.bool true],G') ∧ QI P T G' (ks ++ [k]) ∧ KtP P T G G' := by
 obtain ⟨mv,lv,h1,h2⟩ := h
 obtain ⟨k1,k2⟩ := k
 have hf := xDM xYb (k1,k2) ks 0
 rw [if_neg hk] at hf
 have hG := xAI h1
 have he := xHn xYb (k1,k2) (.int .i64 0) ks 0 0 hk
 have ha := xYa kv2 (k1,k2) (.int .i64 0) ks
 have hs := xQ4 kv2 (k1,k2) (.int .i64 0) ks
 simp only [kv2,Nat.zero_add] at hf he ha hs ⊢
 rcases h2 with ⟨rfl,rfl,rfl⟩ | ⟨q,p,rfl,rfl,hq,hp,hqm,hpl⟩
 ·have he' : xE6 (.agg [.int .i64 (k1 : Nat),.int .i64 (k2 : Nat)]) (.int .i64 0) [] 0 = some (.int .i64 0,0,[(.agg [.int .i64 (k1 : Nat),.int .i64 (k2 : Nat)],.int .i64 0)]) := rfl
  refine ⟨G.set T (.cells false false [.mp (G.length + 1),.own false (G.length + 2) 0 1 2]) ++ [.cells false false [.int .i64 (k1 : Nat),.int .i64 (k2 : Nat)],.mp (ent kv2 [(k1,k2)] 0),.cells false false (pcs [(k1,k2)])],?_,⟨.mp (G.length + 1),.own false (G.length + 2) 0 1 2,?_,.inr ⟨G.length + 1,G.length + 2,rfl,rfl,hB _ (by omega),hB _ (by omega),?_,?_⟩⟩,?_,?_⟩
  ·rw [yF4,a74]
   simp (maxSteps := 30000000) (disch := first | assumption | omega | (simp only [WL,AV.isCell,List.length_modify,xAe] <;> omega) | rfl | decide) only [WB,Nat.reduceAdd,Nat.reduceSub,AV.cells,AV.isCell,↓reduceIte,xAZ,h1,xCU,xEA,WM,xNg,xCt,xD3,xDL,xCl,xDJ,xBY,xEO,xEo,xAc,Nat.reduceMul,Nat.reduceBEq,xEy,xC5,xBS,he',xB4,yCc,xCs,xEz,xQb,xCr,List.set_set,xCk]
   try rfl
  ·rw [xAZ (by simpa using hG),xCt hG]
  ·rw [xEO (by simp)]; rfl
  ·rw [xEO (by simp)]; rfl
  ·simp
  ·intro b hb ht
   have hb' : b < G.length := Nat.lt_of_not_le fun e => hb (hB b e)
   rw [xAZ (by simp; omega),xAS (fun e => ht e.symm)]
 ·have hGq := xAI hqm
  have hGp := xAI hpl
  have hpT : p ≠ T := fun e : p = T => hT (e ▸ hp)
  have hqT : q ≠ T := fun e : q = T => hT (e ▸ hq)
  have hpq : p ≠ q := by rintro rfl; rw [hpl] at hqm; cases hqm
  have b1 : (T != p) = true := by simpa using fun e : T = p => hpT e.symm
  have b2 : (G.length != p) = true := by simp; omega
  have hlm : (ent kv2 ks 0).length = ks.length := xGu ..
  refine ⟨((G.set p .dead).set q (.mp (ent kv2 (ks ++ [(k1,k2)]) 0))).set T (.cells false false [.mp q,.own false (G.length + 1) 0 (ks.length + 1) 2]) ++ [.cells false false [.int .i64 (k1 : Nat),.int .i64 (k2 : Nat)],.cells false false (pcs (ks ++ [(k1,k2)]))],?_,⟨.mp q,.own false (G.length + 1) 0 (ks.length + 1) 2,?_,.inr ⟨q,G.length + 1,rfl,by simp,hq,hB _ (by omega),?_,?_⟩⟩,?_,?_⟩
  ·rw [yF4,a74]
   simp (maxSteps := 30000000) (disch := first | assumption | omega | (simp only [WL,AV.isCell,List.length_modify,xAe] <;> omega) | rfl | decide) only [WB,Nat.reduceAdd,Nat.reduceSub,AV.cells,AV.isCell,↓reduceIte,xAZ,h1,xCU,xEH,xD3,xDL,WM,xCl,xDJ,xBY,hqm,hf,xAc,Nat.reduceMul,hpl,Nat.reduceBEq,xNg,yAL,pcs_snoc',xEy,xC5,xAS,xBS,he,xB4,xCs,xEz,xCt,xJk,ha,xCr,hs,List.set_set,xCk,b1,b2]
   try rfl
  ·rw [xAZ (by simpa using hG),xCt (by simpa using hG)]
  ·rw [xAZ (by simpa using hGq),xAS (fun e => hqT e.symm),xCt (by simpa using hGq)]
  ·rw [xEO (by simp)]; rfl
  ·simp
  ·intro b hb ht
   have hb' : b < G.length := Nat.lt_of_not_le fun e => hb (hB b e)
   rw [xAZ (by simp; omega),xAS (fun e => ht e.symm),xAS (fun e : q = b => hb (e ▸ hq)),xAS (fun e : p = b => hb (e ▸ hp))]
theorem xYw (hT : ¬ P T) (hB : ∀ n,G.length ≤ n → P n) (h : QI P T G ks) (hk : k ∈ ks) (hl : ks.length < 1099511627) :
  ∃ G',L.icall (.func 74 []) [.ptr T 0,kv2 k] G = some (.tup [.int .i64 (pos k ks : Nat),.bool false],G') ∧ QI P T G' ks ∧ KtP P T G G' := by
 obtain ⟨mv,lv,h1,h2⟩ := h
 have hf := xDM xYb k ks 0
 rw [if_pos hk,Nat.zero_add] at hf
 generalize pos k ks = n at *
 obtain ⟨k1,k2⟩ := k
 have hG := xAI h1
 simp only [kv2] at hf ⊢
 rcases h2 with ⟨rfl,rfl,rfl⟩ | ⟨q,p,rfl,rfl,hq,hp,hqm,hpl⟩
 ·simp at hk
 ·have hGq := xAI hqm
  have hGp := xAI hpl
  refine ⟨G ++ [.cells false false [.int .i64 (k1 : Nat),.int .i64 (k2 : Nat)]],?_,⟨.mp q,.own false p 0 ks.length 2,?_,.inr ⟨q,p,rfl,rfl,hq,hp,?_,?_⟩⟩,?_,?_⟩
  ·rw [yF4,a74]
   simp (maxSteps := 30000000) (disch := first | assumption | omega | (simp only [WL,AV.isCell,List.length_modify,xAe] <;> omega) | rfl | decide) only [WB,Nat.reduceAdd,Nat.reduceSub,AV.cells,AV.isCell,↓reduceIte,xAZ,h1,xCU,xEH,xD3,xDL,WM,xCl,xDJ,xBY,hqm,hf,xAc]
  ·rw [xAZ hG,h1]
  ·rw [xAZ hGq,hqm]
  ·rw [xAZ hGp,hpl]
  ·simp
  ·intro b hb ht
   rw [xAZ (Nat.lt_of_not_le fun e => hb (hB b e))]
theorem xYx {k1 k2 : Nat} (h1 : G[T]? = some (.cells false false [.nilm,.sl true 0 []])) :
  L.icall (.func 74 []) [.ptr T 0,.agg [.int .i64 (k1 : Nat),.int .i64 (k2 : Nat)]] G = some (.tup [.int .i64 0,.bool true],G.set T (.cells false false [.mp (G.length + 1),.own false (G.length + 2) 0 1 2]) ++ [.cells false false [.int .i64 (k1 : Nat),.int .i64 (k2 : Nat)],.mp (ent kv2 [(k1,k2)] 0),.cells false false (pcs [(k1,k2)])]) := by
 have hG := xAI h1
 have he' : xE6 (.agg [.int .i64 (k1 : Nat),.int .i64 (k2 : Nat)]) (.int .i64 0) [] 0 = some (.int .i64 0,0,[(.agg [.int .i64 (k1 : Nat),.int .i64 (k2 : Nat)],.int .i64 0)]) := rfl
 rw [yF4,a74]
 simp (maxSteps := 30000000) (disch := first | assumption | omega | (simp only [WL,AV.isCell,List.length_modify,xAe] <;> omega) | rfl | decide) only [WB,Nat.reduceAdd,Nat.reduceSub,AV.cells,AV.isCell,↓reduceIte,xAZ,h1,xCU,xEA,WM,xNg,xCt,xD3,xDL,xCl,xDJ,xBY,xEO,xEo,xAc,Nat.reduceMul,Nat.reduceBEq,xEy,xC5,xBS,he',xB4,yCc,xCs,xEz,xQb,xCr,List.set_set,xCk]
 try rfl
end
abbrev Kpr := List UInt8 × List UInt8
def kvS (p : Kpr) : AV := .agg [.str ⟨p.1.toArray⟩,.str ⟨p.2.toArray⟩]
theorem xYy : xX9 kvS := by
 intro a b
 obtain ⟨a1,a2⟩ := a
 obtain ⟨b1,b2⟩ := b
 have e : xB5 (kvS (a1,a2)) (kvS (b1,b2)) = some ((a1 == b1) && ((a2 == b2) && true)) := rfl
 rw [e,Bool.and_true]
 congr 1
 by_cases c1 : a1 = b1
 ·subst c1
  by_cases c2 : a2 = b2
  ·subst c2; simp
  ·rw [decide_eq_false (fun h => c2 (by injection h))]
   simp [c2]
 ·rw [decide_eq_false (fun h => c1 (by injection h))]
  simp [c1]
def yG8 (c : Kpr) : List AV := [.str ⟨c.1.toArray⟩,.str ⟨c.2.toArray⟩]
def pss (l : List Kpr) : List AV := rows yG8 l
theorem xEJ (l : List Kpr) : (pss l).length = l.length * 2 := xFb (enc := yG8) (k := 2) (fun _ => rfl) l
theorem yAM (l : List Kpr) (c : Kpr) : pss l ++ [.str ⟨c.1.toArray⟩,.str ⟨c.2.toArray⟩] = pss (l ++ [c]) := xTj yG8 l [c]
def QS (P : Nat → Prop) (T : Nat) (G : Heap) (ks : List Kpr) : Prop :=
 ∃ mv lv,G[T]? = some (.cells false false [mv,lv]) ∧
  ((mv = .nilm ∧ lv = .sl true 0 [] ∧ ks = []) ∨ ∃ q p,mv = .mp q ∧ lv = .own false p 0 ks.length 2 ∧ P q ∧ P p ∧ G[q]? = some (.mp (ent kvS ks 0)) ∧ G[p]? = some (.cells false false (pss ks)))
section
variable {P : Nat → Prop} {T : Nat} {G : Heap} {ks : List Kpr} {k : Kpr}
theorem pss_snoc' (l : List Kpr) (a b : List UInt8) : pss l ++ [.str ⟨a.toArray⟩,.str ⟨b.toArray⟩] = pss (l ++ [(a,b)]) := yAM l (a,b)
theorem yAN (l : List Kpr) : List.take (l.length * 2) (pss l) = pss l := List.take_of_length_le (by rw [xEJ]; exact Nat.le_refl _)
set_option maxHeartbeats 1000000 in
theorem xYz (hT : ¬ P T) (hB : ∀ n,G.length ≤ n → P n) (h : QS P T G ks) (hk : k ∉ ks) (hl : ks.length < 1099511627) :
  ∃ G',L.icall (.func 92 []) [.ptr T 0,kvS k] G = some (.tup [.int .i64 (ks.length : Nat),.bool true],G') ∧ QS P T G' (ks ++ [k]) ∧ KtP P T G G' := by
 obtain ⟨mv,lv,h1,h2⟩ := h
 obtain ⟨k1,k2⟩ := k
 have hf := xDM xYy (k1,k2) ks 0
 rw [if_neg hk] at hf
 have hG := xAI h1
 have he := xHn xYy (k1,k2) (.int .i64 0) ks 0 0 hk
 have ha := xYa kvS (k1,k2) (.int .i64 0) ks
 have hs := xQ4 kvS (k1,k2) (.int .i64 0) ks
 simp only [kvS,Nat.zero_add] at hf he ha hs ⊢
 rcases h2 with ⟨rfl,rfl,rfl⟩ | ⟨q,p,rfl,rfl,hq,hp,hqm,hpl⟩
 ·have he' : xE6 (.agg [.str ⟨k1.toArray⟩,.str ⟨k2.toArray⟩]) (.int .i64 0) [] 0 = some (.int .i64 0,0,[(.agg [.str ⟨k1.toArray⟩,.str ⟨k2.toArray⟩],.int .i64 0)]) := rfl
  refine ⟨G.set T (.cells false false [.mp (G.length + 1),.own false (G.length + 2) 0 1 2]) ++ [.cells false false [.str ⟨k1.toArray⟩,.str ⟨k2.toArray⟩],.mp (ent kvS [(k1,k2)] 0),.cells false false (pss [(k1,k2)])],?_,⟨.mp (G.length + 1),.own false (G.length + 2) 0 1 2,?_,.inr ⟨G.length + 1,G.length + 2,rfl,rfl,hB _ (by omega),hB _ (by omega),?_,?_⟩⟩,?_,?_⟩
  ·rw [yGt,a92]
   simp (maxSteps := 30000000) (disch := first | assumption | omega | (simp only [WL,AV.isCell,List.length_modify,xEJ] <;> omega) | rfl | decide) only [WB,Nat.reduceAdd,Nat.reduceSub,AV.cells,AV.isCell,↓reduceIte,xAZ,h1,xCU,xEA,WM,xNg,xCt,xD3,xDL,xCl,xFc,xBY,xEO,xEo,xAc,Nat.reduceMul,Nat.reduceBEq,xEy,xC5,xBS,he',xB4,yCc,xCs,xEz,xQb,xCr,List.set_set,xCk]
   try rfl
  ·rw [xAZ (by simpa using hG),xCt hG]
  ·rw [xEO (by simp)]; rfl
  ·rw [xEO (by simp)]; rfl
  ·simp
  ·intro b hb ht
   have hb' : b < G.length := Nat.lt_of_not_le fun e => hb (hB b e)
   rw [xAZ (by simp; omega),xAS (fun e => ht e.symm)]
 ·have hGq := xAI hqm
  have hGp := xAI hpl
  have hpT : p ≠ T := fun e : p = T => hT (e ▸ hp)
  have hqT : q ≠ T := fun e : q = T => hT (e ▸ hq)
  have hpq : p ≠ q := by rintro rfl; rw [hpl] at hqm; cases hqm
  have b1 : (T != p) = true := by simpa using fun e : T = p => hpT e.symm
  have b2 : (G.length != p) = true := by simp; omega
  have hlm : (ent kvS ks 0).length = ks.length := xGu ..
  refine ⟨((G.set p .dead).set q (.mp (ent kvS (ks ++ [(k1,k2)]) 0))).set T (.cells false false [.mp q,.own false (G.length + 1) 0 (ks.length + 1) 2]) ++ [.cells false false [.str ⟨k1.toArray⟩,.str ⟨k2.toArray⟩],.cells false false (pss (ks ++ [(k1,k2)]))],?_,⟨.mp q,.own false (G.length + 1) 0 (ks.length + 1) 2,?_,.inr ⟨q,G.length + 1,rfl,by simp,hq,hB _ (by omega),?_,?_⟩⟩,?_,?_⟩
  ·rw [yGt,a92]
   simp (maxSteps := 30000000) (disch := first | assumption | omega | (simp only [WL,AV.isCell,List.length_modify,xEJ] <;> omega) | rfl | decide) only [WB,Nat.reduceAdd,Nat.reduceSub,AV.cells,AV.isCell,↓reduceIte,xAZ,h1,xCU,xEH,xD3,xDL,WM,xCl,xFc,xBY,hqm,hf,xAc,Nat.reduceMul,hpl,Nat.reduceBEq,xNg,yAN,pss_snoc',xEy,xC5,xAS,xBS,he,xB4,xCs,xEz,xCt,xJk,ha,xCr,hs,List.set_set,xCk,b1,b2]
   try rfl
  ·rw [xAZ (by simpa using hG),xCt (by simpa using hG)]
  ·rw [xAZ (by simpa using hGq),xAS (fun e => hqT e.symm),xCt (by simpa using hGq)]
  ·rw [xEO (by simp)]; rfl
  ·simp
  ·intro b hb ht
   have hb' : b < G.length := Nat.lt_of_not_le fun e => hb (hB b e)
   rw [xAZ (by simp; omega),xAS (fun e => ht e.symm),xAS (fun e : q = b => hb (e ▸ hq)),xAS (fun e : p = b => hb (e ▸ hp))]
theorem xYA (hT : ¬ P T) (hB : ∀ n,G.length ≤ n → P n) (h : QS P T G ks) (hk : k ∈ ks) (hl : ks.length < 1099511627) :
  ∃ G',L.icall (.func 92 []) [.ptr T 0,kvS k] G = some (.tup [.int .i64 (pos k ks : Nat),.bool false],G') ∧ QS P T G' ks ∧ KtP P T G G' := by
 obtain ⟨mv,lv,h1,h2⟩ := h
 have hf := xDM xYy k ks 0
 rw [if_pos hk,Nat.zero_add] at hf
 generalize pos k ks = n at *
 obtain ⟨k1,k2⟩ := k
 have hG := xAI h1
 simp only [kvS] at hf ⊢
 rcases h2 with ⟨rfl,rfl,rfl⟩ | ⟨q,p,rfl,rfl,hq,hp,hqm,hpl⟩
 ·simp at hk
 ·have hGq := xAI hqm
  have hGp := xAI hpl
  refine ⟨G ++ [.cells false false [.str ⟨k1.toArray⟩,.str ⟨k2.toArray⟩]],?_,⟨.mp q,.own false p 0 ks.length 2,?_,.inr ⟨q,p,rfl,rfl,hq,hp,?_,?_⟩⟩,?_,?_⟩
  ·rw [yGt,a92]
   simp (maxSteps := 30000000) (disch := first | assumption | omega | (simp only [WL,AV.isCell,List.length_modify,xEJ] <;> omega) | rfl | decide) only [WB,Nat.reduceAdd,Nat.reduceSub,AV.cells,AV.isCell,↓reduceIte,xAZ,h1,xCU,xEH,xD3,xDL,WM,xCl,xFc,xBY,hqm,hf,xAc]
  ·rw [xAZ hG,h1]
  ·rw [xAZ hGq,hqm]
  ·rw [xAZ hGp,hpl]
  ·simp
  ·intro b hb ht
   rw [xAZ (Nat.lt_of_not_le fun e => hb (hB b e))]
end
theorem xAy (l : List Nat) : (xAA l).length = l.length := List.length_map ..
theorem is64_snoc' (l : List Nat) (a : Nat) : xAA l ++ [.int .i64 (a : Nat)] = xAA (l ++ [a]) := by unfold xAA; rw [List.map_append]; rfl
theorem xEt (l : List Nat) : List.take l.length (xAA l) = xAA l := List.take_of_length_le (by rw [xAy]; exact Nat.le_refl _)
def QN (P : Nat → Prop) (T : Nat) (G : Heap) (ks : List Nat) : Prop :=
 ∃ mv lv,G[T]? = some (.cells false false [mv,lv]) ∧
  ((mv = .nilm ∧ lv = .sl true 0 [] ∧ ks = []) ∨ ∃ q p,mv = .mp q ∧ lv = .own false p 0 ks.length 1 ∧ P q ∧ P p ∧ G[q]? = some (.mp (ent kv1 ks 0)) ∧ G[p]? = some (.cells false false (xAA ks)))
section
variable {P : Nat → Prop} {T : Nat} {G : Heap} {ks : List Nat} {k : Nat}
set_option maxHeartbeats 1000000 in
theorem xYB (hT : ¬ P T) (hB : ∀ n,G.length ≤ n → P n) (h : QN P T G ks) (hk : k ∉ ks) (hl : ks.length < 1099511627) :
  ∃ G',L.icall (.func 70 []) [.ptr T 0,kv1 k] G = some (.tup [.int .i64 (ks.length : Nat),.bool true],G') ∧ QN P T G' (ks ++ [k]) ∧ KtP P T G G' := by
 obtain ⟨mv,lv,h1,h2⟩ := h
 have hf := xDM xYc k ks 0
 rw [if_neg hk] at hf
 have hG := xAI h1
 have he := xHn xYc k (.int .i64 0) ks 0 0 hk
 have ha := xYa kv1 k (.int .i64 0) ks
 have hs := xQ4 kv1 k (.int .i64 0) ks
 simp only [kv1,Nat.zero_add] at hf he ha hs ⊢
 rcases h2 with ⟨rfl,rfl,rfl⟩ | ⟨q,p,rfl,rfl,hq,hp,hqm,hpl⟩
 ·have he' : xE6 (.int .i64 (k : Nat)) (.int .i64 0) [] 0 = some (.int .i64 0,0,[(.int .i64 (k : Nat),.int .i64 0)]) := rfl
  refine ⟨G.set T (.cells false false [.mp (G.length),.own false (G.length + 1) 0 1 1]) ++ [.mp (ent kv1 [k] 0),.cells false false (xAA [k])],?_,⟨.mp (G.length),.own false (G.length + 1) 0 1 1,?_,.inr ⟨G.length,G.length + 1,rfl,rfl,hB _ (by omega),hB _ (by omega),?_,?_⟩⟩,?_,?_⟩
  ·rw [yF3,a70]
   simp (maxSteps := 30000000) (disch := first | assumption | omega | (simp only [WL,AV.isCell,List.length_modify] <;> omega) | rfl | decide) only [WB,Nat.reduceAdd,Nat.reduceSub,h1,xCU,xEA,↓reduceIte,WM,AV.cells,xAZ,xNg,xCt,xD3,xEo,xAc,AV.isCell,Nat.reduceBEq,xEy,xC5,xBS,he',xB4,xX8,xCs,xEz,xQb,xCr,List.set_set,xCk]
   try rfl
  ·rw [xAZ (by simpa using hG),xCt hG]
  ·rw [xD3 (by simp)]; rfl
  ·rw [xEO (by simp)]; rfl
  ·simp
  ·intro b hb ht
   have hb' : b < G.length := Nat.lt_of_not_le fun e => hb (hB b e)
   rw [xAZ (by simp; omega),xAS (fun e => ht e.symm)]
 ·have hGq := xAI hqm
  have hGp := xAI hpl
  have hpT : p ≠ T := fun e : p = T => hT (e ▸ hp)
  have hqT : q ≠ T := fun e : q = T => hT (e ▸ hq)
  have hpq : p ≠ q := by rintro rfl; rw [hpl] at hqm; cases hqm
  have b1 : (T != p) = true := by simpa using fun e : T = p => hpT e.symm
  have b2 : (G.length != p) = true := by simp; omega
  have hlm : (ent kv1 ks 0).length = ks.length := xGu ..
  refine ⟨((G.set p .dead).set q (.mp (ent kv1 (ks ++ [k]) 0))).set T (.cells false false [.mp q,.own false (G.length) 0 (ks.length + 1) 1]) ++ [.cells false false (xAA (ks ++ [k]))],?_,⟨.mp q,.own false (G.length) 0 (ks.length + 1) 1,?_,.inr ⟨q,G.length,rfl,by simp,hq,hB _ (by omega),?_,?_⟩⟩,?_,?_⟩
  ·rw [yF3,a70]
   simp (maxSteps := 30000000) (disch := first | assumption | omega | (simp only [WL,AV.isCell,List.length_modify] <;> omega) | rfl | decide) only [WB,Nat.reduceAdd,Nat.reduceSub,h1,xCU,xEH,↓reduceIte,WM,hqm,hf,xAc,AV.cells,AV.isCell,hpl,Nat.reduceBEq,is64_snoc',xEy,xC5,xAZ,xAS,xBS,he,xB4,xNg,xCs,xEz,xCt,xJk,ha,xCr,hs,List.set_set,xCk,b1]
   try rfl
  ·rw [xAZ (by simpa using hG),xCt (by simpa using hG)]
  ·rw [xAZ (by simpa using hGq),xAS (fun e => hqT e.symm),xCt (by simpa using hGq)]
  ·rw [xD3 (by simp)]; rfl
  ·simp
  ·intro b hb ht
   have hb' : b < G.length := Nat.lt_of_not_le fun e => hb (hB b e)
   rw [xAZ (by simp; omega),xAS (fun e => ht e.symm),xAS (fun e : q = b => hb (e ▸ hq)),xAS (fun e : p = b => hb (e ▸ hp))]
theorem xYC (hT : ¬ P T) (hB : ∀ n,G.length ≤ n → P n) (h : QN P T G ks) (hk : k ∈ ks) (hl : ks.length < 1099511627) :
  ∃ G',L.icall (.func 70 []) [.ptr T 0,kv1 k] G = some (.tup [.int .i64 (pos k ks : Nat),.bool false],G') ∧ QN P T G' ks ∧ KtP P T G G' := by
 obtain ⟨mv,lv,h1,h2⟩ := h
 have hf := xDM xYc k ks 0
 rw [if_pos hk,Nat.zero_add] at hf
 generalize pos k ks = n at *
 have hG := xAI h1
 simp only [kv1] at hf ⊢
 rcases h2 with ⟨rfl,rfl,rfl⟩ | ⟨q,p,rfl,rfl,hq,hp,hqm,hpl⟩
 ·simp at hk
 ·have hGq := xAI hqm
  have hGp := xAI hpl
  refine ⟨G ,?_,⟨.mp q,.own false p 0 ks.length 1,?_,.inr ⟨q,p,rfl,rfl,hq,hp,?_,?_⟩⟩,?_,?_⟩
  ·rw [yF3,a70]
   simp (maxSteps := 30000000) (disch := first | assumption | omega | (simp only [WL,AV.isCell,List.length_modify] <;> omega) | rfl | decide) only [WB,Nat.reduceAdd,Nat.reduceSub,h1,xCU,xEH,↓reduceIte,WM,hqm,hf]
  ·exact h1
  ·exact hqm
  ·exact hpl
  ·simp
  ·intro b hb ht
   rfl
theorem xYD {k : Nat} (h1 : G[T]? = some (.cells false false [.nilm,.sl true 0 []])) :
  L.icall (.func 70 []) [.ptr T 0,.int .i64 (k : Nat)] G = some (.tup [.int .i64 0,.bool true],G.set T (.cells false false [.mp (G.length),.own false (G.length + 1) 0 1 1]) ++ [.mp (ent kv1 [k] 0),.cells false false (xAA [k])]) := by
 have hG := xAI h1
 have he' : xE6 (.int .i64 (k : Nat)) (.int .i64 0) [] 0 = some (.int .i64 0,0,[(.int .i64 (k : Nat),.int .i64 0)]) := rfl
 rw [yF3,a70]
 simp (maxSteps := 30000000) (disch := first | assumption | omega | (simp only [WL,AV.isCell,List.length_modify] <;> omega) | rfl | decide) only [WB,Nat.reduceAdd,Nat.reduceSub,h1,xCU,xEA,↓reduceIte,WM,AV.cells,xAZ,xNg,xCt,xD3,xEo,xAc,AV.isCell,Nat.reduceBEq,xEy,xC5,xBS,he',xB4,xX8,xCs,xEz,xQb,xCr,List.set_set,xCk]
 try rfl
end
def xJF (f : Nat → Nat) (row : List Nat) : List Nat → Nat → Nat → List Nat
 | l,_,0 => l
 | l,i,e + 1 => xJF f row (l.set i (f (row.getD i 0))) (i + 1) e
theorem xQc (f : Nat → Nat) (row : List Nat) : ∀ (e i : Nat) (l : List Nat),(xJF f row l i e).length = l.length
 | 0,_,_ => rfl
 | e + 1,i,l => by rw [xJF,xQc f row e]; simp
theorem xTO (f : Nat → Nat) (row : List Nat) : ∀ (e i : Nat) (l : List Nat),i + e ≤ l.length → ∀ j,j < l.length → (xJF f row l i e).getD j 0 = if i ≤ j ∧ j < i + e then f (row.getD j 0) else l.getD j 0
 | 0,i,l,_,j,_ => by rw [xJF,if_neg (by omega)]
 | e + 1,i,l,h,j,hj => by
  rw [xJF,xTO f row e (i + 1) _ (by simp; omega) j (by simpa using hj)]
  by_cases c : i = j
  ·subst c
   rw [if_neg (by omega),if_pos (by omega)]
   rw [List.getD_eq_getElem?_getD,List.getElem?_set_self hj]; rfl
  ·by_cases c2 : i + 1 ≤ j ∧ j < i + 1 + e
   ·rw [if_pos c2,if_pos (by omega)]
   ·rw [if_neg c2,if_neg (by omega)]
    rw [List.getD_eq_getElem?_getD,List.getElem?_set_ne c,← List.getD_eq_getElem?_getD]
theorem xYE (f : Nat → Nat) (row : List Nat) : xJF f row (List.replicate row.length 0) 0 row.length = row.map f := by
 apply List.ext_getElem
 ·rw [xQc]; simp
 ·intro j h1 h2
  have hj : j < row.length := by simpa using h2
  have := xTO f row row.length 0 (List.replicate row.length 0) (by simp) j (by simpa using hj)
  rw [if_pos (by omega),List.getD_eq_getElem?_getD,List.getElem?_eq_getElem h1,Option.getD_some] at this
  rw [this,List.getElem_map,List.getD_eq_getElem?_getD,List.getElem?_eq_getElem hj,Option.getD_some]
theorem yFK {p pc : Nat} {row cl : List Nat} {s1 s4 s5 s6 s7 s20 s21 s22 : AV} (hn : row.length < 1099511627) (hr : ∀ x ∈ row,x < cl.length) (hp : p ≠ pc) : ∀ e i (l : List Nat) (G : Heap),i + e = row.length → l.length = row.length → G[p]? = some (.cells false false (xAA l)) → G[pc]? = some (.cells false false (xAA cl)) →
  L.loop xOs xZU ⟨xOt s1 (.own false pc 0 cl.length 1) s4 s5 s6 s7 (.own false p 0 row.length 1) s20 s21 s22 (.sl false row.length (xAA row)) (.int .i64 (row.length : Nat)) (.int .i64 (i : Nat)),G⟩ =
   some (.exit 4,⟨xOt s1 (.own false pc 0 cl.length 1) s4 s5 s6 s7 (.own false p 0 row.length 1) s20 s21 s22 (.sl false row.length (xAA row)) (.int .i64 (row.length : Nat)) (.int .i64 (row.length : Nat)),G.set p (.cells false false (xAA (xJF (fun t => cl.getD t 0) row l i e)))⟩) := by
 intro e
 induction e with
 | zero =>
  intro i l G hi hl g1 g2
  obtain rfl : i = row.length := by omega
  have hG := xAI g1
  have xCO : G.set p (.cells false false (xAA l)) = G := by
   apply List.ext_getElem?
   intro b
   by_cases c : p = b
   ·subst c; rw [xCt hG,g1]
   ·rw [xAS c]
  rw [xJF,xCO,yBe]
  simp (maxSteps := 30000000) (disch := first | assumption | omega | (simp only [WL,AV.isCell] <;> omega) | rfl | decide) only [xRP,WB,↓reduceIte,xV0]
 | succ e ih =>
  intro i l G hi hl g1 g2
  have hG := xAI g1
  have hlt : ((i : Nat) : Int) < (row.length : Nat) := by omega
  have hi2 : i < row.length := by omega
  have hx := hr _ (xAh (a := 0) hi2)
  have hi3 : i < l.length := by omega
  have ih' := ih (i + 1) (l.set i (cl.getD (row.getD i 0) 0)) (G.set p (.cells false false (xAA (l.set i (cl.getD (row.getD i 0) 0))))) (by omega) (by simpa using hl) (xCt hG) (by rw [xAS hp,g2])
  rw [List.set_set] at ih'
  rw [xJF,yBe]
  simp (maxSteps := 30000000) (disch := first | assumption | omega | (simp only [WL,AV.isCell] <;> omega) | rfl | decide) only [xRP,WB,hlt,↓reduceIte,g2,AV.cells,g1,xV0,ih']
theorem xL9 : ∀ {l : List Nat},(∀ x ∈ l,x < 100) → numsA (xAA l) = some l
 | [],_ => rfl
 | n :: l,h => by
  have hn := h n (by simp)
  have ih := xL9 (l := l) (fun x hx => h x (by simp [hx]))
  have e : xAA (n :: l) = .int .i64 (n : Nat) :: xAA l := rfl
  rw [e,numsA,ih]
  simp
  omega
theorem yFL {z : Bool} {l : List Nat} (h : ∀ x ∈ l,x < 100) (hl : l.length ≤ 100000) : L.pcall 93 [.sl z l.length (xAA l)] = some (.str ⟨(textA l).toArray⟩) := by
 refine xRg rfl ?_
 have e : primA 93 [.sl z l.length (xAA l)] = (if l.length = (xAA l).length ∧ l.length ≤ 100000 then (numsA (xAA l)).map fun l => .str ⟨(textA l).toArray⟩ else none) := rfl
 rw [e,xL9 h,if_pos ⟨by rw [xAy],hl⟩]
 rfl
def by8 (w : List Nat) : List UInt8 := w.map UInt8.ofNat
theorem xTs : ∀ {w : List Nat},(∀ x ∈ w,x < 256) → xJB (bs w) = some (by8 w)
 | [],_ => rfl
 | n :: l,h => by
  have hn := h n (by simp)
  have ih := xTs (w := l) (fun x hx => h x (by simp [hx]))
  have e : bs (n :: l) = .int .u8 (n : Nat) :: bs l := rfl
  rw [e,xJB,ih]
  simp [by8]
theorem yDR {R : Rec} {F : List AV} {H : Heap} (x : Arg) : xAz R F H (.bstr x) = xDt H (xAa R F H (.bstr x)) := xBX _ rfl
def sig (M : Ma) (cl : List Nat) (s : Nat) : Kpr := (by8 (M.emit.getD s []),textA ((M.next.getD s []).map fun t => cl.getD t 0))
def P69 (Q pr : Nat) (n : Nat) : Prop := Q < n ∧ n ≠ pr
structure RI (M : Ma) (cl : List Nat) (Q pc pr : Nat) (G : Heap) (ks : List Kpr) (rf : List Nat) : Prop where
 g0 : G[0]? = some (.cells false false M.cells)
 gc : G[pc]? = some (.cells false false (xAA cl))
 gr : G[pr]? = some (.cells false false (xAA rf))
 q : QS (P69 Q pr) Q G ks
 c0 : 0 < pc
 cq : pc < Q
 qr : Q < pr
 nl : cl.length = M.next.length
 rl : rf.length = M.next.length
 cb : ∀ x ∈ cl,x < 100
section
variable {M : Ma} {cl rf : List Nat} {Q pc pr s : Nat} {G : Heap} {ks : List Kpr} {c : AV}
theorem QS.app {P : Nat → Prop} {T : Nat} (h : QS P T G ks) (l : List Blk) : QS P T (G ++ l) ks := by
 obtain ⟨mv,lv,q1,q2⟩ := h
 refine ⟨mv,lv,by rw [xAZ (xAI q1),q1],?_⟩
 rcases q2 with q2 | ⟨q,p,e1,e2,p1,p2,m1,m2⟩
 ·exact .inl q2
 ·exact .inr ⟨q,p,e1,e2,p1,p2,by rw [xAZ (xAI m1),m1],by rw [xAZ (xAI m2),m2]⟩
theorem QS.setr {T r : Nat} (h : QS (P69 T r) T G ks) (hr : T < r) (b : Blk) : QS (P69 T r) T (G.set r b) ks := by
 obtain ⟨mv,lv,q1,q2⟩ := h
 refine ⟨mv,lv,by rw [xAS (by omega),q1],?_⟩
 rcases q2 with q2 | ⟨q,p,e1,e2,p1,p2,m1,m2⟩
 ·exact .inl q2
 ·exact .inr ⟨q,p,e1,e2,p1,p2,by rw [xAS (fun e => p1.2 e.symm),m1],by rw [xAS (fun e => p2.2 e.symm),m2]⟩
abbrev F69 (pc Q pr : Nat) (cn : Nat) (M : Ma) (c : AV) (s : Nat) : List AV := xOv (.ptr 0 0) (.own false pc 0 cn 1) c (.ptr Q 0) (.own false pr 0 cn 1) (.sl false M.next.length (M.next.map rowI)) (.int .i64 (M.next.length : Nat)) (.int .i64 (s : Nat))
theorem xYF {P : Nat → Prop} {T : Nat} {k : Kpr} (hT : ¬ P T) (hB : ∀ n,G.length ≤ n → P n) (h : QS P T G ks) (hl : ks.length < 1099511627) :
  ∃ G' b,L.icall (.func 92 []) [.ptr T 0,kvS k] G = some (.tup [.int .i64 (pos k (if k ∈ ks then ks else ks ++ [k]) : Nat),.bool b],G') ∧ QS P T G' (if k ∈ ks then ks else ks ++ [k]) ∧ KtP P T G G' := by
 by_cases hk : k ∈ ks
 ·obtain ⟨G',e1,e2,e3⟩ := xYA hT hB h hk hl
  rw [if_pos hk]
  exact ⟨G',false,e1,e2,e3⟩
 ·obtain ⟨G',e1,e2,e3⟩ := xYz hT hB h hk hl
  rw [if_neg hk]
  have hp : ∀ l : List Kpr,k ∉ l → pos k (l ++ [k]) = l.length := by
   intro l
   induction l with
   | nil => intro _; simp [pos]
   | cons a t ih =>
    intro hn
    rw [List.cons_append,pos,if_neg (fun e => hn (by simp [e])),ih (fun e => hn (by simp [e])),List.length_cons]
  rw [hp ks hk]
  exact ⟨G',true,e1,e2,e3⟩
set_option maxHeartbeats 2000000 in
theorem yDS (hV : Vm M) (h : RI M cl Q pc pr G ks rf) (hs : s < M.next.length) (hl : ks.length < 1099511627) :
  ∃ G',L.loop xFK xOu ⟨F69 pc Q pr M.next.length M c s,G⟩ = L.loop xFK xOu ⟨F69 pc Q pr M.next.length M c (s + 1),G'⟩ ∧
   RI M cl Q pc pr G' (if sig M cl s ∈ ks then ks else ks ++ [sig M cl s]) (rf.set s (pos (sig M cl s) (if sig M cl s ∈ ks then ks else ks ++ [sig M cl s]))) := by
 obtain ⟨g0,gc,gr,hq,c0,cq,qr,hcl,hrl,hcb⟩ := h
 have e0 := xAI g0
 have ec := xAI gc
 have er := xAI gr
 have hn := hV.n9
 have hrow := hV.nl hs
 have h64 : two M.i ≤ 64 := by have := xCw (show M.i ≤ 6 by have := hV.io; omega); have : two 6 = 64 := rfl; omega
 have hrb := hV.rb _ (xAh (a := []) hs)
 have hwb := hV.wb _ (xAh (a := []) (show s < M.emit.length by rw [hV.el]; exact hs))
 have ho : two M.o ≤ 64 := by have := xCw (show M.o ≤ 6 by have := hV.io; omega); have : two 6 = 64 := rfl; omega
 have hu := xTs (w := M.emit.getD s []) (fun x hx => by have := hwb x hx; omega)
 have hfill := yFK (p := G.length) (pc := pc) (row := M.next.getD s []) (cl := cl) (s1 := .ptr 0 0) (s4 := c) (s5 := .ptr Q 0) (s6 := .own false pr 0 M.next.length 1) (s7 := .int .i64 (s : Nat)) (s20 := .sl false M.next.length (M.next.map rowI)) (s21 := .int .i64 (M.next.length : Nat)) (s22 := .int .i64 (s : Nat)) (by omega) (fun x hx => by rw [hcl]; exact hrb x hx) (by omega) (M.next.getD s []).length 0 (List.replicate (M.next.getD s []).length 0) (G ++ [.cells false false (xAA (List.replicate (M.next.getD s []).length 0))]) (by omega) (by simp) (by rw [xD3 rfl]; rfl) (by rw [xAZ ec,gc])
 rw [xYE,xX8 rfl,hcl,hrow] at hfill
 simp only [Int.natCast_zero,List.set_cons_zero] at hfill
 have htx := yFL (z := false) (l := (M.next.getD s []).map fun t => cl.getD t 0) (by
  intro x hx
  obtain ⟨t,ht,rfl⟩ := List.mem_map.1 hx
  exact hcb _ (xAh (by rw [hcl]; exact hrb t ht))) (by rw [List.length_map]; omega)
 rw [List.length_map,hrow] at htx
 obtain ⟨G1,b,k1,k2,k3⟩ := xYF (P := P69 Q pr) (T := Q) (k := sig M cl s) (G := G ++ [.cells false false (xAA ((M.next.getD s []).map fun t => cl.getD t 0))]) (fun e => by have := e.1; omega) (fun n e => by simp at e; exact ⟨by omega,by omega⟩) (hq.app _) hl
 generalize hk : (if sig M cl s ∈ ks then ks else ks ++ [sig M cl s]) = ks' at *
 generalize hpo : pos (sig M cl s) ks' = n at *
 have f0 := (k3.2 0 (fun e => by have := e.1; omega) (by omega))
 have fc := (k3.2 pc (fun e => by have := e.1; omega) (by omega))
 have fr := (k3.2 pr (fun e => e.2 rfl) (by omega))
 rw [xAZ e0,g0] at f0
 rw [xAZ ec,gc] at fc
 rw [xAZ er,gr] at fr
 have er' := xAI fr
 refine ⟨G1.set pr (.cells false false (xAA (rf.set s n))),?_,⟨by rw [xAS (by omega),f0],by rw [xAS (by omega),fc],xCt er',k2.setr qr _,c0,cq,qr,hcl,by simpa using hrl,hcb⟩⟩
 have l5 := hV.el
 have htk : List.take (two M.i) ((M.next.getD s []).map fun t => cl.getD t 0) = (M.next.getD s []).map fun t => cl.getD t 0 := List.take_of_length_le (by rw [List.length_map]; omega)
 have hlt : ((s : Nat) : Int) < (M.next.length : Nat) := by omega
 have hs2 : s < M.emit.length := by omega
 have hs3 : s < rf.length := by omega
 simp only [kvS,sig,by8] at k1
 simp only [by8] at hu
 unfold Ma.cells at g0 f0
 rw [yBf]
 simp (maxSteps := 30000000) (disch := first | assumption | omega | (simp only [WL,AV.isCell] <;> omega) | rfl | decide) only [xRQ,WB,hlt,↓reduceIte,xBU,rowI,hrow,xAl,xV0,hfill,xAZ,g0,l5,xCf,rowB,yDR,WM,hu,xAx,xD3,htk,htx,xBL,xAF,xAO,xAc,AV.cells,Nat.reduceAdd,Nat.reduceLeDiff,AV.isCell,k1,fr,xKE]
end
def xGy (M : Ma) (cl : List Nat) (st : List Kpr × List Nat) (s : Nat) : List Kpr × List Nat :=
 (if sig M cl s ∈ st.1 then st.1 else st.1 ++ [sig M cl s],st.2.set s (pos (sig M cl s) (if sig M cl s ∈ st.1 then st.1 else st.1 ++ [sig M cl s])))
theorem xQd (M : Ma) (cl : List Nat) (st : List Kpr × List Nat) (s : Nat) : (xGy M cl st s).1.length ≤ st.1.length + 1 := by
 unfold xGy
 split
 ·simp
 ·simp
section
variable {M : Ma} {cl : List Nat} {Q pc pr : Nat} {c : AV}
set_option maxHeartbeats 1000000 in
theorem xUH {G : Heap} : L.loop xFK xOu ⟨F69 pc Q pr M.next.length M c M.next.length,G⟩ = some (.exit 2,⟨F69 pc Q pr M.next.length M c M.next.length,G⟩) := by
 rw [yBf]
 simp (maxSteps := 30000000) (disch := first | assumption | omega | (simp only [WL,AV.isCell] <;> omega) | rfl | decide) only [xRQ,WB,↓reduceIte,xKE]
theorem yFM (hV : Vm M) : ∀ e s (G : Heap) (ks : List Kpr) (rf : List Nat),s + e = M.next.length → ks.length ≤ s → RI M cl Q pc pr G ks rf →
  ∃ G',L.loop xFK xOu ⟨F69 pc Q pr M.next.length M c s,G⟩ = some (.exit 2,⟨F69 pc Q pr M.next.length M c M.next.length,G'⟩) ∧
   RI M cl Q pc pr G' ((List.range' s e).foldl (xGy M cl) (ks,rf)).1 ((List.range' s e).foldl (xGy M cl) (ks,rf)).2 := by
 intro e
 induction e with
 | zero =>
  intro s G ks rf hs hk h
  obtain rfl : s = M.next.length := by omega
  exact ⟨G,xUH,h⟩
 | succ e ih =>
  intro s G ks rf hs hk h
  have hn := hV.n9
  obtain ⟨G1,e1,e2⟩ := yDS (c := c) hV h (s := s) (by omega) (by omega)
  have hl := xQd M cl (ks,rf) s
  obtain ⟨G2,e3,e4⟩ := ih (s + 1) G1 (xGy M cl (ks,rf) s).1 (xGy M cl (ks,rf) s).2 (by omega) (by simp only at hl; omega) e2
  exact ⟨G2,e1.trans e3,e4⟩
end
def xMa (M : Ma) (cl : List Nat) : List Kpr × List Nat := (List.range M.next.length).foldl (xGy M cl) ([],List.replicate M.next.length 0)
structure CI (M : Ma) (cl : List Nat) (pc : Nat) (G : Heap) : Prop where
 g0 : G[0]? = some (.cells false false M.cells)
 gc : G[pc]? = some (.cells false false (xAA cl))
 c0 : 0 < pc
 nl : cl.length = M.next.length
 cb : ∀ x ∈ cl,x < 100
section
variable {M : Ma} {cl : List Nat} {pc : Nat} {G : Heap} {s2 : AV} {cnt : Nat}
theorem CI.start (h : CI M cl pc G) : RI M cl G.length pc (G.length + 1) (G ++ [.cells false false [.nilm,.sl true 0 []],.cells false false (xAA (List.replicate M.next.length 0))]) [] (List.replicate M.next.length 0) := by
 have h0 := xAI h.g0
 have hc := xAI h.gc
 exact ⟨by rw [xAZ h0,h.g0],by rw [xAZ hc,h.gc],by rw [xEO rfl]; rfl,⟨.nilm,.sl true 0 [],by rw [xD3 rfl]; rfl,.inl ⟨rfl,rfl,rfl⟩⟩,h.c0,hc,by omega,h.nl,by simp,h.cb⟩
theorem QS.len {P : Nat → Prop} {T : Nat} {ks : List Kpr} (h : QS P T G ks) : ∃ mv lv,G[T]? = some (.cells false false [mv,lv]) ∧ ((lv = .sl true 0 [] ∧ ks = []) ∨ ∃ p,lv = .own false p 0 ks.length 2) := by
 obtain ⟨mv,lv,q1,q2⟩ := h
 refine ⟨mv,lv,q1,?_⟩
 rcases q2 with ⟨_,a,b⟩ | ⟨q,p,_,a,_⟩
 ·exact .inl ⟨a,b⟩
 ·exact .inr ⟨p,a⟩
abbrev yEg (s2 : AV) (pc n cnt : Nat) : List AV := xOx (.ptr 0 0) s2 (.own false pc 0 n 1) (.int .i64 (cnt : Nat))
set_option maxHeartbeats 2000000 in
theorem yG9 (hV : Vm M) (h : CI M cl pc G) : ∃ G',RI M cl G.length pc (G.length + 1) G' (xMa M cl).1 (xMa M cl).2 ∧
  ((xMa M cl).1.length = cnt → L.loop xFL xOw ⟨yEg s2 pc M.next.length cnt,G⟩ = some (.ret,⟨yEg (.own false (G.length + 1) 0 M.next.length 1) (G.length + 1) M.next.length cnt,G'⟩)) ∧
  ((xMa M cl).1.length ≠ cnt → L.loop xFL xOw ⟨yEg s2 pc M.next.length cnt,G⟩ = L.loop xFL xOw ⟨yEg .any (G.length + 1) M.next.length (xMa M cl).1.length,G'⟩) := by
 obtain ⟨G',e1,e2⟩ := yFM (c := .int .i64 (cnt : Nat)) hV M.next.length 0 _ [] _ (by omega) (by simp) h.start
 rw [← List.range_eq_range'] at e2
 refine ⟨G',e2,?_⟩
 have hn := hV.n9
 have g0 := h.g0
 have hG := xAI g0
 have g0' := e2.g0
 obtain ⟨mv,lv,q1,q2⟩ := e2.q.len
 unfold Ma.cells at g0 g0'
 change L.loop xFK xOu ⟨xOv (.ptr 0 0) (.own false pc 0 M.next.length 1) (.int .i64 (cnt : Nat)) (.ptr G.length 0) (.own false (G.length + 1) 0 M.next.length 1) (.sl false M.next.length (M.next.map rowI)) (.int .i64 (M.next.length : Nat)) (.int .i64 0),_⟩ = _ at e1
 unfold xMa
 generalize ((List.range M.next.length).foldl (xGy M cl) ([],List.replicate M.next.length 0)).1 = ks at *
 have hz : xAA (List.replicate M.next.length 0) = List.replicate M.next.length (.int .i64 0) := by unfold xAA; simp
 rcases q2 with ⟨rfl,rfl⟩ | ⟨p,rfl⟩
 ·constructor
  ·intro hc
   have hc' : ((0 : Int) = (cnt : Nat)) ↔ True := iff_true_intro (by simp at hc; omega)
   rw [xRR]
   simp (maxSteps := 30000000) (disch := first | assumption | omega | (simp only [WL,AV.isCell] <;> omega) | rfl | decide) only [xKF,WB,AV.cells,AV.isCell,↓reduceIte,xAl,xAZ,g0,xKE,e1,q1,hc',xOy]
  ·intro hc
   have hc' : ¬ (0 : Int) = (cnt : Nat) := by simp at hc; omega
   rw [xRR]
   simp (maxSteps := 30000000) (disch := first | assumption | omega | (simp only [WL,AV.isCell] <;> omega) | rfl | decide) only [xKF,WB,AV.cells,AV.isCell,↓reduceIte,xAl,xAZ,g0,xKE,e1,q1,hc',xOy]
   rfl
 ·constructor
  ·intro hc
   subst hc
   rw [xRR]
   simp (maxSteps := 30000000) (disch := first | assumption | omega | (simp only [WL,AV.isCell] <;> omega) | rfl | decide) only [xKF,WB,AV.cells,AV.isCell,↓reduceIte,xAl,xAZ,g0,xKE,e1,q1,xOy]
  ·intro hc
   have hc' : ¬ ((ks.length : Nat) : Int) = (cnt : Nat) := by omega
   rw [xRR]
   simp (maxSteps := 30000000) (disch := first | assumption | omega | (simp only [WL,AV.isCell] <;> omega) | rfl | decide) only [xKF,WB,AV.cells,AV.isCell,↓reduceIte,xAl,xAZ,g0,xKE,e1,q1,hc',xOy]
end
theorem xM7 {α : Type} [DecidableEq α] {a : α} : ∀ {l : List α} (r : List α),a ∈ l → pos a (l ++ r) = pos a l
 | [],r,h => by simp at h
 | b :: t,r,h => by
  rw [List.cons_append,pos,pos]
  by_cases e : a = b
  ·rw [if_pos e,if_pos e]
  ·rw [if_neg e,if_neg e,xM7 r (by rcases List.mem_cons.1 h with h | h; exact absurd h e; exact h)]
structure FI (M : Ma) (cl : List Nat) (s : Nat) (st : List Kpr × List Nat) : Prop where
 nd : st.1.Nodup
 mem : ∀ j,j < s → sig M cl j ∈ st.1
 num : ∀ j,j < s → st.2.getD j 0 = pos (sig M cl j) st.1
 of : ∀ k ∈ st.1,∃ j,j < s ∧ k = sig M cl j
 len : st.2.length = M.next.length
theorem FI.step {M : Ma} {cl : List Nat} {s : Nat} {st : List Kpr × List Nat} (h : FI M cl s st) (hs : s < M.next.length) : FI M cl (s + 1) (xGy M cl st s) := by
 have hlt : s < st.2.length := by rw [h.len]; exact hs
 have hself : ∀ x,(st.2.set s x).getD s 0 = x := fun x => by rw [List.getD_eq_getElem?_getD,List.getElem?_set_self hlt]; rfl
 have hne : ∀ x j,j ≠ s → (st.2.set s x).getD j 0 = st.2.getD j 0 := fun x j hj => by rw [List.getD_eq_getElem?_getD,List.getElem?_set_ne (fun e => hj e.symm),← List.getD_eq_getElem?_getD]
 unfold xGy
 by_cases hm : sig M cl s ∈ st.1
 ·rw [if_pos hm]
  refine ⟨h.nd,?_,?_,?_,by simpa using h.len⟩
  ·intro j hj
   by_cases e : j = s
   ·subst e; exact hm
   ·exact h.mem j (by omega)
  ·intro j hj
   by_cases e : j = s
   ·subst e; exact hself _
   ·exact (hne _ j e).trans (h.num j (by omega))
  ·intro k hk
   obtain ⟨j,hj,e⟩ := h.of k hk
   exact ⟨j,by omega,e⟩
 ·rw [if_neg hm]
  refine ⟨?_,?_,?_,?_,by simpa using h.len⟩
  ·rw [List.nodup_append]
   refine ⟨h.nd,by simp,?_⟩
   intro a ha b hb e
   rw [List.mem_singleton] at hb
   exact hm (hb ▸ e ▸ ha)
  ·intro j hj
   by_cases e : j = s
   ·subst e; simp
   ·exact List.mem_append_left _ (h.mem j (by omega))
  ·intro j hj
   by_cases e : j = s
   ·subst e; exact hself _
   ·refine (hne _ j e).trans ((h.num j (by omega)).trans ?_)
    exact (xM7 _ (h.mem j (by omega))).symm
  ·intro k hk
   rcases List.mem_append.1 hk with hk | hk
   ·obtain ⟨j,hj,e⟩ := h.of k hk
    exact ⟨j,by omega,e⟩
   ·rw [List.mem_singleton] at hk
    exact ⟨s,by omega,hk⟩
theorem FI.all {M : Ma} {cl : List Nat} : ∀ (e s : Nat) (st : List Kpr × List Nat),s + e = M.next.length → FI M cl s st → FI M cl M.next.length ((List.range' s e).foldl (xGy M cl) st)
 | 0,s,st,h,hf => by
  obtain rfl : s = M.next.length := by omega
  exact hf
 | e + 1,s,st,h,hf => by
  rw [List.range'_succ,List.foldl_cons]
  exact FI.all e (s + 1) _ (by omega) (hf.step (by omega))
theorem xM8 (M : Ma) (cl : List Nat) : FI M cl M.next.length (xMa M cl) := by
 unfold xMa
 rw [List.range_eq_range']
 refine FI.all M.next.length 0 _ (by omega) ⟨by simp,?_,?_,by simp,by simp⟩
 ·intro j hj; omega
 ·intro j hj; omega
theorem yDT (M : Ma) (cl : List Nat) {s t : Nat} (hs : s < M.next.length) (ht : t < M.next.length) : (xMa M cl).2.getD s 0 = (xMa M cl).2.getD t 0 ↔ sig M cl s = sig M cl t := by
 have h := xM8 M cl
 rw [h.num s hs,h.num t ht]
 constructor
 ·intro e
  have h1 := xTv (d := (([],[]) : Kpr)) (h.mem s hs)
  have h2 := xTv (d := (([],[]) : Kpr)) (h.mem t ht)
  rw [← h1,← h2,e]
 ·intro e; rw [e]
theorem xJp (M : Ma) (cl : List Nat) {s : Nat} (hs : s < M.next.length) : (xMa M cl).2.getD s 0 < (xMa M cl).1.length := by
 have h := xM8 M cl
 rw [h.num s hs]
 exact xTu (h.mem s hs)
theorem xQ8 : ∀ n < 10,∀ m < 10,UInt8.ofNat (48 + n) = UInt8.ofNat (48 + m) → n = m := by decide
theorem yCk : ∀ n < 10,UInt8.ofNat (48 + n) ≠ 32 := by decide
theorem xUI {n m : Nat} {x y : List UInt8} (hn : n < 100) (hm : m < 100) (h : dec2 n ++ 32 :: x = dec2 m ++ 32 :: y) : n = m ∧ x = y := by
 unfold dec2 at h
 by_cases c1 : n < 10
 ·rw [if_pos c1] at h
  by_cases c2 : m < 10
  ·rw [if_pos c2] at h
   simp only [List.cons_append,List.nil_append,List.cons.injEq,true_and] at h
   exact ⟨xQ8 n c1 m c2 h.1,h.2⟩
  ·rw [if_neg c2] at h
   simp only [List.cons_append,List.nil_append,List.cons.injEq] at h
   exact absurd h.2.1.symm (yCk _ (by omega))
 ·rw [if_neg c1] at h
  by_cases c2 : m < 10
  ·rw [if_pos c2] at h
   simp only [List.cons_append,List.nil_append,List.cons.injEq] at h
   exact absurd h.2.1 (yCk _ (by omega))
  ·rw [if_neg c2] at h
   simp only [List.cons_append,List.nil_append,List.cons.injEq,true_and] at h
   have h1 := xQ8 (n / 10) (by omega) (m / 10) (by omega) h.1
   have h2 := xQ8 (n % 10) (by omega) (m % 10) (by omega) h.2.1
   exact ⟨by omega,h.2.2⟩
theorem xEK (n : Nat) (l : List Nat) : textA (n :: l) = dec2 n ++ 32 :: textA l := by
 unfold textA
 rw [List.flatMap_cons,List.append_assoc]; rfl
theorem xQe : ∀ {l r : List Nat},(∀ x ∈ l,x < 100) → (∀ x ∈ r,x < 100) → textA l = textA r → l = r
 | [],[],_,_,_ => rfl
 | [],m :: r,_,_,h => by
  rw [xEK] at h
  have : (textA []).length = 0 := rfl
  rw [h] at this
  simp at this
 | n :: l,[],_,_,h => by
  rw [xEK] at h
  have : (textA []).length = 0 := rfl
  rw [← h] at this
  simp at this
 | n :: l,m :: r,h1,h2,h => by
  rw [xEK,xEK] at h
  obtain ⟨rfl,e⟩ := xUI (h1 n (by simp)) (h2 m (by simp)) h
  rw [xQe (fun x hx => h1 x (by simp [hx])) (fun x hx => h2 x (by simp [hx])) e]
theorem xYG : ∀ {l r : List Nat},(∀ x ∈ l,x < 256) → (∀ x ∈ r,x < 256) → by8 l = by8 r → l = r
 | [],[],_,_,_ => rfl
 | [],m :: r,_,_,h => by simp [by8] at h
 | n :: l,[],_,_,h => by simp [by8] at h
 | n :: l,m :: r,h1,h2,h => by
  simp only [by8,List.map_cons,List.cons.injEq] at h
  have e := congrArg UInt8.toNat h.1
  have a := h1 n (by simp)
  have b := h2 m (by simp)
  rw [UInt8.toNat_ofNat',UInt8.toNat_ofNat'] at e
  have : n = m := by omega
  subst this
  rw [xYG (fun x hx => h1 x (by simp [hx])) (fun x hx => h2 x (by simp [hx])) h.2]
theorem yFN {M : Ma} {cl : List Nat} (hV : Vm M) (hl : cl.length = M.next.length) (hc : ∀ x ∈ cl,x < 100) {s t : Nat} (hs : s < M.next.length) (ht : t < M.next.length) :
  sig M cl s = sig M cl t ↔ M.emit.getD s [] = M.emit.getD t [] ∧ ∀ i,i < two M.i → cl.getD (nx M s i) 0 = cl.getD (nx M t i) 0 := by
 have hel := hV.el
 have ho : two M.o ≤ 64 := by have := xCw (show M.o ≤ 6 by have := hV.io; omega); have : two 6 = 64 := rfl; omega
 have eb : ∀ u,u < M.next.length → ∀ x ∈ M.emit.getD u [],x < 256 := fun u hu x hx => by have := hV.wb _ (xAh (a := []) (show u < M.emit.length by omega)) x hx; omega
 have nb : ∀ u,u < M.next.length → ∀ x ∈ (M.next.getD u []).map fun t => cl.getD t 0,x < 100 := by
  intro u hu x hx
  obtain ⟨y,hy,rfl⟩ := List.mem_map.1 hx
  exact hc _ (xAh (by rw [hl]; exact hV.rb _ (xAh (a := []) hu) y hy))
 have l1 := hV.nl hs
 have l2 := hV.nl ht
 unfold sig
 constructor
 ·intro h
  injection h with h1 h2
  refine ⟨xYG (eb s hs) (eb t ht) h1,?_⟩
  have h3 := xQe (nb s hs) (nb t ht) h2
  intro i hi
  unfold nx
  generalize M.next.getD s [] = a at *
  generalize M.next.getD t [] = b at *
  have hia : i < a.length := by omega
  have hib : i < b.length := by omega
  have := congrArg (fun l => l[i]?) h3
  simp only [List.getElem?_map,List.getElem?_eq_getElem hia,List.getElem?_eq_getElem hib,Option.map_some,Option.some.injEq] at this
  rw [List.getD_eq_getElem?_getD (l := a),List.getElem?_eq_getElem hia,List.getD_eq_getElem?_getD (l := b),List.getElem?_eq_getElem hib]
  exact this
 ·rintro ⟨h1,h2⟩
  rw [h1]
  congr 2
  apply List.ext_getElem
  ·simp only [List.length_map]; omega
  ·intro i a b
   simp only [List.length_map] at a b
   have := h2 i (by omega)
   unfold nx at this
   rw [List.getElem_map,List.getElem_map]
   rw [List.getD_eq_getElem?_getD (l := M.next.getD s []),List.getD_eq_getElem?_getD (l := M.next.getD t []),List.getElem?_eq_getElem a,List.getElem?_eq_getElem b] at this
   exact this
def clK (M : Ma) : Nat → List Nat
 | 0 => List.replicate M.next.length 0
 | k + 1 => (xMa M (clK M k)).2
theorem xM9 (M : Ma) (cl : List Nat) : (xMa M cl).1.length ≤ M.next.length := by
 have h : ∀ (e s : Nat) (st : List Kpr × List Nat),((List.range' s e).foldl (xGy M cl) st).1.length ≤ st.1.length + e := by
  intro e
  induction e with
  | zero => intro s st; exact Nat.le_refl _
  | succ e ih =>
   intro s st
   rw [List.range'_succ,List.foldl_cons]
   have a := ih (s + 1) (xGy M cl st s)
   have b := xQd M cl st s
   omega
 have := h M.next.length 0 ([],List.replicate M.next.length 0)
 unfold xMa
 rw [List.range_eq_range']
 simpa using this
theorem xFf (M : Ma) : ∀ k,(clK M k).length = M.next.length
 | 0 => by simp [clK]
 | k + 1 => (xM8 M (clK M k)).len
theorem xYH {M : Ma} (hn : M.next.length ≤ 100) (h0 : 0 < M.next.length) : ∀ k,∀ x ∈ clK M k,x < 100
 | 0 => by
  intro x hx
  have := (List.mem_replicate.1 hx).2
  omega
 | k + 1 => by
  intro x hx
  obtain ⟨s,hs,rfl⟩ := List.getElem_of_mem hx
  have hs' : s < M.next.length := by rw [← xFf M (k + 1)]; exact hs
  have a := xJp M (clK M k) hs'
  have b := xM9 M (clK M k)
  have e : (xMa M (clK M k)).2.getD s 0 = (clK M (k + 1))[s] := by
   rw [List.getD_eq_getElem?_getD]
   show ((clK M (k + 1))[s]?).getD 0 = _
   rw [List.getElem?_eq_getElem hs]; rfl
  omega
def xMb (M : Ma) (k s t : Nat) : Prop := (clK M k).getD s 0 = (clK M k).getD t 0
theorem xF3 {M : Ma} (hV : Vm M) (hn : M.next.length ≤ 100) {k s t : Nat} (hs : s < M.next.length) (ht : t < M.next.length) : xMb M (k + 1) s t ↔ M.emit.getD s [] = M.emit.getD t [] ∧ ∀ i,i < two M.i → xMb M k (nx M s i) (nx M t i) := by
 have h1 := yDT M (clK M k) hs ht
 have h2 := yFN hV (xFf M k) (xYH hn hV.n0 k) hs ht
 exact h1.trans h2
theorem xF4 {M : Ma} (hV : Vm M) (hn : M.next.length ≤ 100) : ∀ (k s t : Nat),s < M.next.length → t < M.next.length → xMb M (k + 1) s t → xMb M k s t
 | 0,s,t,hs,ht,_ => by
  unfold xMb clK
  simp only [List.getD_eq_getElem?_getD,List.getElem?_replicate,hs,ht,if_true]
 | k + 1,s,t,hs,ht,h => by
  obtain ⟨a,b⟩ := (xF3 hV hn hs ht).1 h
  exact (xF3 hV hn hs ht).2 ⟨a,fun i hi => xF4 hV hn k _ _ (hV.nx hs hi) (hV.nx ht hi) (b i hi)⟩
section
variable {H : Heap} {fv : AV}
end
def xQf (M : Ma) : Nat → List Nat → List Nat
 | _,[] => []
 | s,x :: t => em M s x :: xQf M (nx M s x) t
section
variable {M : Ma} {G : Heap} {ov sv : AV} {o st w : List Nat} {zw : Bool}
end
def it {σ : Type} (f : σ → σ) (c : σ) : Nat → σ
 | 0 => c
 | n + 1 => f (it f c n)
def its {σ : Type} (f : σ → σ) (c : σ) (n : Nat) : List σ := (List.range n).map (it f c)
section
variable {σ : Type} {f : σ → σ} {g : σ → Nat} {c : σ}
variable [DecidableEq σ]
end
section
variable {M : Ma} {z1 z2 : Bool} {p q : List Nat} {G : Heap} {s n : Nat} {ks : List (Nat × Nat)} {w : List Nat}
end
section
variable {M : Ma} {z1 z2 : Bool} {p q : List Nat}
variable {w : List Nat} {zw : Bool}
end
abbrev Bs := List (Nat × Nat) × List (List Nat)
def xFh (A B : Ma) (u : List Nat) (c : Nat × Nat) : List Nat → Bs → Option (List Nat) × Bs
 | [],S => (none,S)
 | i :: r,S => if em A c.1 i ≠ em B c.2 i then (some (u ++ [i]),S)
  else if (nx A c.1 i,nx B c.2 i) ∈ S.1 then xFh A B u c r S else xFh A B u c r (S.1 ++ [(nx A c.1 i,nx B c.2 i)],S.2 ++ [u ++ [i]])
def xJq (A B : Ma) : Nat → Nat → Bs → Option (List Nat)
 | 0,_,_ => none
 | e + 1,k,S => if k < S.1.length then (match xFh A B (S.2.getD k []) (S.1.getD k (0,0)) (List.range (two A.i)) S with
  | (some v,_) => some v
  | (none,S') => xJq A B e (k + 1) S') else none
def xF5 (A B : Ma) : Nat × Nat → List Nat → Nat × Nat
 | c,[] => c
 | c,x :: t => xF5 A B (nx A c.1 x,nx B c.2 x) t
theorem xDO (A B : Ma) : ∀ (u : List Nat) (c : Nat × Nat) (x : Nat),xF5 A B c (u ++ [x]) = (nx A (xF5 A B c u).1 x,nx B (xF5 A B c u).2 x)
 | [],c,x => rfl
 | y :: t,c,x => xDO A B t _ x
def xQg : List Nat → List Nat → Prop
 | [],_ => True
 | _ :: _,[] => False
 | a :: s,b :: t => a < b ∨ (a = b ∧ xQg s t)
def xNa (u v : List Nat) : Prop := u.length < v.length ∨ (u.length = v.length ∧ xQg u v)
theorem xGz : ∀ u : List Nat,xQg u u
 | [] => trivial
 | a :: s => .inr ⟨rfl,xGz s⟩
theorem xJr : ∀ {u v w : List Nat},u.length = v.length → v.length = w.length → xQg u v → xQg v w → xQg u w
 | [],_,_,_,_,_,_ => trivial
 | a :: s,[],_,h,_,_,_ => by simp at h
 | a :: s,b :: t,[],_,h,_,_ => by simp at h
 | a :: s,b :: t,c :: r,h1,h2,h3,h4 => by
  simp only [List.length_cons,Nat.add_right_cancel_iff] at h1 h2
  rcases h3 with h3 | ⟨rfl,h3⟩
  ·rcases h4 with h4 | ⟨rfl,h4⟩
   ·exact .inl (by omega)
   ·exact .inl h3
  ·rcases h4 with h4 | ⟨rfl,h4⟩
   ·exact .inl h4
   ·exact .inr ⟨rfl,xJr h1 h2 h3 h4⟩
theorem xF6 (u : List Nat) : xNa u u := .inr ⟨rfl,xGz u⟩
theorem xDy {u v w : List Nat} (h1 : xNa u v) (h2 : xNa v w) : xNa u w := by
 unfold xNa at *
 rcases h1 with h1 | ⟨a1,b1⟩
 ·rcases h2 with h2 | ⟨a2,b2⟩
  ·exact .inl (by omega)
  ·exact .inl (by omega)
 ·rcases h2 with h2 | ⟨a2,b2⟩
  ·exact .inl (by omega)
  ·exact .inr ⟨by omega,xJr a1 a2 b1 b2⟩
theorem xMc : ∀ {u v : List Nat} {x y : Nat},u.length = v.length → xQg u v → (u = v → x ≤ y) → xQg (u ++ [x]) (v ++ [y])
 | [],[],x,y,_,_,h => by
  have := h rfl
  by_cases e : x = y
  ·exact .inr ⟨e,trivial⟩
  ·exact .inl (by omega)
 | [],_ :: _,_,_,h,_,_ => by simp at h
 | _ :: _,[],_,_,h,_,_ => by simp at h
 | a :: s,b :: t,x,y,h1,h2,h3 => by
  simp only [List.length_cons,Nat.add_right_cancel_iff] at h1
  rcases h2 with h2 | ⟨rfl,h2⟩
  ·exact .inl h2
  ·exact .inr ⟨rfl,xMc h1 h2 (fun e => h3 (by rw [e]))⟩
theorem xCV {u v : List Nat} {x y : Nat} (h : xNa u v) (hxy : u = v → x ≤ y) : xNa (u ++ [x]) (v ++ [y]) := by
 unfold xNa at *
 simp only [List.length_append,List.length_cons,List.length_nil]
 rcases h with h | ⟨a,b⟩
 ·exact .inl (by omega)
 ·exact .inr ⟨by omega,xMc a b hxy⟩
theorem xFg (u v : List Nat) : xNa u (u ++ v) := by
 unfold xNa
 cases v with
 | nil => exact .inr ⟨by simp,by rw [List.append_nil]; exact xGz u⟩
 | cons a t => exact .inl (by simp)
def xQ9 (A B : Ma) (u : List Nat) (x : Nat) : Prop := em A (xF5 A B (A.s,B.s) u).1 x ≠ em B (xF5 A B (A.s,B.s) u).2 x
structure BI (A B : Ma) (S : Bs) (k : Nat) (i : Nat) : Prop where
 len : S.2.length = S.1.length
 nd : S.1.Nodup
 first : S.1.getD 0 (0,0) = (A.s,B.s) ∧ S.2.getD 0 [] = [] ∧ 0 < S.1.length
 reach : ∀ j,j < S.1.length → xF5 A B (A.s,B.s) (S.2.getD j []) = S.1.getD j (0,0)
 lets : ∀ j,j < S.1.length → ∀ x ∈ S.2.getD j [],x < two A.i
 ord : ∀ j j',j < j' → j' < S.1.length → xNa (S.2.getD j []) (S.2.getD j' [])
 from' : ∀ j,0 < j → j < S.1.length → ∃ j0 y,S.2.getD j [] = S.2.getD j0 [] ++ [y] ∧ y < two A.i ∧ j0 < S.1.length ∧ (j0 < k ∨ (j0 = k ∧ y < i))
 seen : ∀ j y,j < S.1.length → y < two A.i → (j < k ∨ (j = k ∧ y < i)) → em A (S.1.getD j (0,0)).1 y = em B (S.1.getD j (0,0)).2 y ∧ ∃ j',j' < S.1.length ∧ S.1.getD j' (0,0) = (nx A (S.1.getD j (0,0)).1 y,nx B (S.1.getD j (0,0)).2 y) ∧ xNa (S.2.getD j' []) (S.2.getD j [] ++ [y])
section
variable {A B : Ma} {S : Bs} {k i : Nat}
theorem xTP {α : Type} {l : List α} {d : α} (h : l.Nodup) {a b : Nat} (ha : a < l.length) (hb : b < l.length) (e : l.getD a d = l.getD b d) : a = b := by
 rw [List.getD_eq_getElem?_getD,List.getD_eq_getElem?_getD,List.getElem?_eq_getElem ha,List.getElem?_eq_getElem hb] at e
 exact (List.getElem_inj h).mp e
theorem xAQ {α : Type} (l r : List α) (d : α) {a : Nat} (ha : a < l.length) : (l ++ r).getD a d = l.getD a d := by
 rw [List.getD_eq_getElem?_getD,List.getD_eq_getElem?_getD,List.getElem?_append_left ha]
theorem xCm {α : Type} (l : List α) (x d : α) : (l ++ [x]).getD l.length d = x := by
 rw [List.getD_eq_getElem?_getD,List.getElem?_append_right (Nat.le_refl _)]; simp
theorem BI.diff (h : BI A B S k i) {a b : Nat} (ha : a < S.1.length) (hb : b < S.1.length) (e : S.2.getD a [] = S.2.getD b []) : a = b :=
 xTP h.nd ha hb (by rw [← h.reach a ha,← h.reach b hb,e])
theorem BI.top (h : BI A B S k i) (hk : k < S.1.length) (j : Nat) (hj : j < S.1.length) : xNa (S.2.getD j []) (S.2.getD k [] ++ [i]) := by
 by_cases j0 : j = 0
 ·subst j0; rw [h.first.2.1]; exact xFg [] _
 obtain ⟨p,y,e,hy,hp,hc⟩ := h.from' j (by omega) hj
 rw [e]
 rcases hc with hc | ⟨rfl,hc⟩
 ·exact xCV (h.ord p k hc hk) (fun e' => by have := h.diff hp hk e'; omega)
 ·exact xCV (xF6 _) (fun _ => Nat.le_of_lt hc)
theorem BI.after (h : BI A B S k i) (hk : k < S.1.length) {j y : Nat} (hj : j < S.1.length) (hc : ¬ (j < k ∨ (j = k ∧ y < i))) : xNa (S.2.getD k [] ++ [i]) (S.2.getD j [] ++ [y]) := by
 by_cases e : j = k
 ·subst e; exact xCV (xF6 _) (fun _ => by omega)
 ·exact xCV (h.ord k j (by omega) hj) (fun e' => absurd (h.diff hk hj e') (by omega))
theorem BI.find (h : BI A B S k i) (hk : k < S.1.length) : ∀ (t : List Nat),(∀ x ∈ t,x < two A.i) → (∃ j,j < S.1.length ∧ xF5 A B (A.s,B.s) t = S.1.getD j (0,0) ∧ xNa (S.2.getD j []) t) ∨ xNa (S.2.getD k [] ++ [i]) t := by
 intro t
 generalize hn : t.length = n
 induction n generalizing t with
 | zero =>
  intro _
  have : t = [] := List.eq_nil_of_length_eq_zero hn
  subst this
  exact .inl ⟨0,h.first.2.2,h.first.1.symm,by rw [h.first.2.1]; exact xF6 _⟩
 | succ n ih =>
  intro hl
  rcases List.eq_nil_or_concat t with rfl | ⟨r,y,rfl⟩
  ·simp at hn
  rw [List.concat_eq_append] at *
  have hr : r.length = n := by simpa using hn
  rcases ih r hr (fun x hx => hl x (List.mem_append_left _ hx)) with ⟨j,hj,ej,sj⟩ | hs
  ·by_cases hc : j < k ∨ (j = k ∧ y < i)
   ·obtain ⟨_,j',hj',ej',sj'⟩ := h.seen j y hj (hl y (by simp)) hc
    refine .inl ⟨j',hj',?_,xDy sj' (xCV sj (fun _ => Nat.le_refl _))⟩
    rw [xDO,ej,ej']
   ·exact .inr (xDy (h.after hk hj hc) (xCV sj (fun _ => Nat.le_refl _)))
  ·exact .inr (xDy hs (xFg _ _))
theorem BI.least (h : BI A B S k i) (hk : k < S.1.length) (t : List Nat) (y : Nat) (hl : ∀ x ∈ t ++ [y],x < two A.i) (ht : xQ9 A B t y) : xNa (S.2.getD k [] ++ [i]) (t ++ [y]) := by
 rcases h.find hk t (fun x hx => hl x (List.mem_append_left _ hx)) with ⟨j,hj,ej,sj⟩ | hs
 ·by_cases hc : j < k ∨ (j = k ∧ y < i)
  ·exact absurd (h.seen j y hj (hl y (by simp)) hc).1 (by unfold xQ9 at ht; rw [ej] at ht; exact ht)
  ·exact xDy (h.after hk hj hc) (xCV sj (fun _ => Nat.le_refl _))
 ·exact xDy hs (xFg _ _)
theorem BI.all (h : BI A B S S.1.length 0) : ∀ (t : List Nat),(∀ x ∈ t,x < two A.i) → ∃ j,j < S.1.length ∧ xF5 A B (A.s,B.s) t = S.1.getD j (0,0) := by
 intro t
 generalize hn : t.length = n
 induction n generalizing t with
 | zero =>
  intro _
  have : t = [] := List.eq_nil_of_length_eq_zero hn
  subst this
  exact ⟨0,h.first.2.2,h.first.1.symm⟩
 | succ n ih =>
  intro hl
  rcases List.eq_nil_or_concat t with rfl | ⟨r,y,rfl⟩
  ·simp at hn
  rw [List.concat_eq_append] at *
  obtain ⟨j,hj,ej⟩ := ih r (by simpa using hn) (fun x hx => hl x (List.mem_append_left _ hx))
  obtain ⟨_,j',hj',ej',_⟩ := h.seen j y hj (hl y (by simp)) (.inl hj)
  exact ⟨j',hj',by rw [xDO,ej,ej']⟩
theorem BI.none (h : BI A B S S.1.length 0) (t : List Nat) (y : Nat) (hl : ∀ x ∈ t ++ [y],x < two A.i) : ¬ xQ9 A B t y := by
 obtain ⟨j,hj,ej⟩ := h.all t (fun x hx => hl x (List.mem_append_left _ hx))
 unfold xQ9
 rw [ej]
 exact fun e => e (h.seen j y hj (hl y (by simp)) (.inl hj)).1
theorem BI.old (h : BI A B S k i) (hk : k < S.1.length) (he : em A (S.1.getD k (0,0)).1 i = em B (S.1.getD k (0,0)).2 i) (hm : (nx A (S.1.getD k (0,0)).1 i,nx B (S.1.getD k (0,0)).2 i) ∈ S.1) : BI A B S k (i + 1) := by
 refine ⟨h.len,h.nd,h.first,h.reach,h.lets,h.ord,?_,?_⟩
 ·intro j h0 hj
  obtain ⟨p,y,e,hy,hp,hc⟩ := h.from' j h0 hj
  exact ⟨p,y,e,hy,hp,by omega⟩
 ·intro j y hj hy hc
  by_cases hc' : j < k ∨ (j = k ∧ y < i)
  ·exact h.seen j y hj hy hc'
  ·have : j = k := by omega
   subst this
   have : y = i := by omega
   subst this
   obtain ⟨j',hj',ej'⟩ := List.getElem_of_mem hm
   exact ⟨he,j',hj',by rw [List.getD_eq_getElem?_getD,List.getElem?_eq_getElem hj',Option.getD_some,ej'],h.top hk j' hj'⟩
theorem BI.new (h : BI A B S k i) (hk : k < S.1.length) (hi : i < two A.i) (he : em A (S.1.getD k (0,0)).1 i = em B (S.1.getD k (0,0)).2 i) (hm : (nx A (S.1.getD k (0,0)).1 i,nx B (S.1.getD k (0,0)).2 i) ∉ S.1) :
  BI A B (S.1 ++ [(nx A (S.1.getD k (0,0)).1 i,nx B (S.1.getD k (0,0)).2 i)],S.2 ++ [S.2.getD k [] ++ [i]]) k (i + 1) := by
 have hl := h.len
 have g1 : ∀ {j},j < S.1.length → ∀ r,(S.1 ++ r).getD j (0,0) = S.1.getD j (0,0) := fun hj r => xAQ _ r _ hj
 have g2 : ∀ {j},j < S.1.length → ∀ r,(S.2 ++ r).getD j [] = S.2.getD j [] := fun hj r => xAQ _ r _ (by omega)
 have g3 : ∀ x,(S.2 ++ [x]).getD S.1.length [] = x := fun x => by rw [← hl]; exact xCm _ _ _
 have g4 : ∀ x,(S.1 ++ [x]).getD S.1.length (0,0) = x := fun x => xCm _ _ _
 have sp : ∀ {j},j < (S.1 ++ [(nx A (S.1.getD k (0,0)).1 i,nx B (S.1.getD k (0,0)).2 i)]).length → j < S.1.length ∨ j = S.1.length := fun hj => by simp at hj; omega
 refine ⟨?_,?_,?_,?_,?_,?_,?_,?_⟩
 ·simp [hl]
 ·rw [List.nodup_append]
  refine ⟨h.nd,by simp,?_⟩
  intro a ha b hb e
  rw [List.mem_singleton] at hb
  exact hm (hb ▸ e ▸ ha)
 ·have h0 := h.first.2.2
  refine ⟨by rw [g1 h0]; exact h.first.1,by rw [g2 h0]; exact h.first.2.1,by simp⟩
 ·intro j hj
  rcases sp hj with hj | rfl
  ·rw [g1 hj,g2 hj]; exact h.reach j hj
  ·rw [g4,g3,xDO,h.reach k hk]
 ·intro j hj
  rcases sp hj with hj | rfl
  ·rw [g2 hj]; exact h.lets j hj
  ·rw [g3]
   intro x hx
   rcases List.mem_append.mp hx with hx | hx
   ·exact h.lets k hk x hx
   ·rw [List.mem_singleton] at hx; omega
 ·intro j j' hjj hj'
  rcases sp hj' with hj' | rfl
  ·rw [g2 (by omega),g2 hj']; exact h.ord j j' hjj hj'
  ·rw [g2 hjj,g3]; exact h.top hk j hjj
 ·intro j h0 hj
  rcases sp hj with hj | rfl
  ·obtain ⟨p,y,e,hy,hp,hc⟩ := h.from' j h0 hj
   exact ⟨p,y,by rw [g2 hj,g2 hp]; exact e,hy,by simp; omega,by omega⟩
  ·exact ⟨k,i,by rw [g3,g2 hk],hi,by simp; omega,.inr ⟨rfl,by omega⟩⟩
 ·intro j y hj hy hc
  have hj : j < S.1.length := by rcases sp hj with hj | rfl <;> omega
  rw [g1 hj,g2 hj]
  by_cases hc' : j < k ∨ (j = k ∧ y < i)
  ·obtain ⟨a,j',hj',ej',sj'⟩ := h.seen j y hj hy hc'
   exact ⟨a,j',by simp; omega,by rw [g1 hj',ej'],by rw [g2 hj']; exact sj'⟩
  ·have : j = k := by omega
   subst this
   have : y = i := by omega
   subst this
   exact ⟨he,S.1.length,by simp,by rw [g4],by rw [g3]; exact xF6 _⟩
theorem BI.next (h : BI A B S k (two A.i)) : BI A B S (k + 1) 0 := by
 refine ⟨h.len,h.nd,h.first,h.reach,h.lets,h.ord,?_,?_⟩
 ·intro j h0 hj
  obtain ⟨p,y,e,hy,hp,hc⟩ := h.from' j h0 hj
  exact ⟨p,y,e,hy,hp,.inl (by omega)⟩
 ·intro j y hj hy hc
  exact h.seen j y hj hy (by omega)
theorem BI.start (A B : Ma) : BI A B ([(A.s,B.s)],[[]]) 0 0 := by
 refine ⟨rfl,by simp,⟨rfl,rfl,by simp⟩,?_,?_,?_,?_,?_⟩
 ·intro j hj
  have : j = 0 := by simpa using hj
  subst this; rfl
 ·intro j hj
  have : j = 0 := by simpa using hj
  subst this; simp
 ·intro j j' a b; simp at b; omega
 ·intro j a b; simp at b; omega
 ·intro j y a b c; omega
end
def yHa (A B : Ma) (v : List Nat) : Prop := ∃ u x,v = u ++ [x] ∧ (∀ y ∈ v,y < two A.i) ∧ xQ9 A B u x ∧ ∀ t y,(∀ z ∈ t ++ [y],z < two A.i) → xQ9 A B t y → xNa v (t ++ [y])
theorem xJs (A B : Ma) (k : Nat) : ∀ (m i : Nat) (S : Bs),i + m = two A.i → k < S.1.length → BI A B S k i →
  (∀ v S',xFh A B (S.2.getD k []) (S.1.getD k (0,0)) (List.range' i m) S = (some v,S') → yHa A B v) ∧
  (∀ S',xFh A B (S.2.getD k []) (S.1.getD k (0,0)) (List.range' i m) S = (none,S') → BI A B S' k (two A.i) ∧ k < S'.1.length)
 | 0,i,S,hm,hk,h => by
  have : i = two A.i := by omega
  subst this
  refine ⟨by intro v S' e; simp [xFh] at e,?_⟩
  intro S' e
  simp only [List.range'_zero,xFh,Prod.mk.injEq,true_and] at e
  subst e
  exact ⟨h,hk⟩
 | m + 1,i,S,hm,hk,h => by
  have hi : i < two A.i := by omega
  rw [List.range'_succ,xFh]
  by_cases he : em A (S.1.getD k (0,0)).1 i = em B (S.1.getD k (0,0)).2 i
  ·rw [if_neg (fun e => e he)]
   by_cases hmem : (nx A (S.1.getD k (0,0)).1 i,nx B (S.1.getD k (0,0)).2 i) ∈ S.1
   ·rw [if_pos hmem]
    exact xJs A B k m (i + 1) S (by omega) hk (h.old hk he hmem)
   ·rw [if_neg hmem]
    have hn := h.new hk hi he hmem
    have := xJs A B k m (i + 1) _ (by omega) (by simp; omega) hn
    rwa [show (S.1 ++ [(nx A (S.1.getD k (0,0)).1 i,nx B (S.1.getD k (0,0)).2 i)]).getD k (0,0) = S.1.getD k (0,0) from xAQ _ _ _ hk,show (S.2 ++ [S.2.getD k [] ++ [i]]).getD k [] = S.2.getD k [] from xAQ _ _ _ (by rw [h.len]; exact hk)] at this
  ·rw [if_pos he]
   refine ⟨?_,by intro S' e; simp at e⟩
   intro v S' e
   simp only [Prod.mk.injEq,Option.some.injEq] at e
   obtain ⟨rfl,rfl⟩ := e
   refine ⟨_,i,rfl,?_,?_,fun t y hl ht => h.least hk t y hl ht⟩
   ·intro x hx
    rcases List.mem_append.mp hx with hx | hx
    ·exact h.lets k hk x hx
    ·rw [List.mem_singleton] at hx; omega
   ·unfold xQ9
    rw [h.reach k hk]
    exact he
theorem yAO {α : Type} [DecidableEq α] {d : α} {l : List α} (h : l.Nodup) {j : Nat} (hj : j < l.length) : pos (l.getD j d) l = j := by
 have hm : l.getD j d ∈ l := xAh hj
 have h1 := xTu hm
 have h2 := xTv (d := d) hm
 exact xTP h h1 hj h2
def cnK (M : Ma) (k : Nat) : Nat := (xMa M (clK M k)).1.length
theorem yFO (M : Ma) (k : Nat) {j : Nat} (hj : j < cnK M k) : ∃ s,s < M.next.length ∧ (clK M (k + 1)).getD s 0 = j := by
 have h := xM8 M (clK M k)
 obtain ⟨s,hs,e⟩ := h.of _ (xAh (a := (([],[]) : Kpr)) hj)
 refine ⟨s,hs,?_⟩
 have := h.num s hs
 rw [← e,yAO h.nd hj] at this
 exact this
theorem xYI {M : Ma} (hV : Vm M) (hn : M.next.length ≤ 100) (k : Nat) : cnK M k ≤ cnK M (k + 1) ∧ ∀ s t,s < M.next.length → t < M.next.length → xMb M (k + 1) s t → ¬ xMb M (k + 2) s t → cnK M k + 1 ≤ cnK M (k + 1) := by
 have hex : ∀ j,∃ s,j < cnK M k → s < M.next.length ∧ (clK M (k + 1)).getD s 0 = j := by
  intro j
  by_cases hj : j < cnK M k
  ·obtain ⟨s,h⟩ := yFO M k hj
   exact ⟨s,fun _ => h⟩
  ·exact ⟨0,fun h => absurd h hj⟩
 let rep : Nat → Nat := fun j => Classical.choose (hex j)
 have hrep : ∀ j,j < cnK M k → rep j < M.next.length ∧ (clK M (k + 1)).getD (rep j) 0 = j := fun j => Classical.choose_spec (hex j)
 have hlt : ∀ s,s < M.next.length → (clK M (k + 2)).getD s 0 < cnK M (k + 1) := fun s hs => xJp M (clK M (k + 1)) hs
 have hnd : ((List.range (cnK M k)).map fun j => (clK M (k + 2)).getD (rep j) 0).Nodup := by
  rw [List.nodup_iff_pairwise_ne,List.pairwise_map]
  refine List.Pairwise.imp_of_mem ?_ (List.nodup_iff_pairwise_ne.1 List.nodup_range)
  intro a b ha hb hne e
  have h1 := hrep a (List.mem_range.1 ha)
  have h2 := hrep b (List.mem_range.1 hb)
  have := xF4 hV hn (k + 1) _ _ h1.1 h2.1 e
  unfold xMb at this
  rw [h1.2,h2.2] at this
  exact hne this
 refine ⟨?_,?_⟩
 ·have := xF0 _ _ hnd (fun x hx => by
   obtain ⟨j,hj,rfl⟩ := List.mem_map.1 hx
   exact hlt _ (hrep j (List.mem_range.1 hj)).1)
  simpa using this
 ·intro s t hs ht h1 h2
  have hj : (clK M (k + 1)).getD s 0 < cnK M k := xJp M (clK M k) hs
  have hr := hrep _ hj
  obtain ⟨u,hu,e1,e2⟩ : ∃ u,u < M.next.length ∧ xMb M (k + 1) u (rep ((clK M (k + 1)).getD s 0)) ∧ ¬ xMb M (k + 2) u (rep ((clK M (k + 1)).getD s 0)) := by
   by_cases c : xMb M (k + 2) s (rep ((clK M (k + 1)).getD s 0))
   ·refine ⟨t,ht,?_,fun e => h2 (Eq.trans c (Eq.symm e))⟩
    exact Eq.trans (Eq.symm h1) hr.2.symm
   ·exact ⟨s,hs,hr.2.symm,c⟩
  have hnot : (clK M (k + 2)).getD u 0 ∉ (List.range (cnK M k)).map fun j => (clK M (k + 2)).getD (rep j) 0 := by
   intro hm
   obtain ⟨j,hj',e⟩ := List.mem_map.1 hm
   have hr' := hrep j (List.mem_range.1 hj')
   have h3 : xMb M (k + 1) (rep j) u := xF4 hV hn (k + 1) _ _ hr'.1 hu e
   have h4 : j = (clK M (k + 1)).getD s 0 := hr'.2.symm.trans (h3.trans (e1.trans hr.2))
   rw [h4] at e
   exact e2 e.symm
  have := xF0 (cnK M (k + 1)) ((clK M (k + 2)).getD u 0 :: (List.range (cnK M k)).map fun j => (clK M (k + 2)).getD (rep j) 0) (List.nodup_cons.2 ⟨hnot,hnd⟩) (fun x hx => by
   rcases List.mem_cons.1 hx with rfl | hx
   ·exact hlt u hu
   ·obtain ⟨j,hj,rfl⟩ := List.mem_map.1 hx
    exact hlt _ (hrep j (List.mem_range.1 hj)).1)
  simpa using this
theorem yDU {M : Ma} (hV : Vm M) (hn : M.next.length ≤ 100) {k : Nat} (h : cnK M (k + 1) = cnK M k) {s t : Nat} (hs : s < M.next.length) (ht : t < M.next.length) : xMb M (k + 2) s t ↔ xMb M (k + 1) s t := by
 refine ⟨xF4 hV hn (k + 1) s t hs ht,fun e => ?_⟩
 apply Classical.byContradiction
 intro e'
 have := (xYI hV hn k).2 s t hs ht e e'
 omega
def Cls (M : Ma) (k : Nat) : Prop := ∀ s t,s < M.next.length → t < M.next.length → (xMb M (k + 1) s t ↔ xMb M k s t)
theorem yDV {M : Ma} (hV : Vm M) (hn : M.next.length ≤ 100) : ∀ e k (G : Heap) (pc : Nat) (s2 : AV) (cnt : Nat),M.next.length < e + cnt → CI M (clK M k) pc G → cnt ≤ cnK M k → (cnK M k = cnt → Cls M k) →
  ∃ K G' p cnt',L.loop xFL xOw ⟨yEg s2 pc M.next.length cnt,G⟩ = some (.ret,⟨yEg (.own false p 0 M.next.length 1) p M.next.length cnt',G'⟩) ∧ G'[p]? = some (.cells false false (xAA (clK M (K + 1)))) ∧ Cls M K := by
 intro e
 induction e with
 | zero =>
  intro k G pc s2 cnt h1 h2 h3 h4
  have := xM9 M (clK M k)
  unfold cnK at h3
  omega
 | succ e ih =>
  intro k G pc s2 cnt h1 h2 h3 h4
  obtain ⟨G',r1,r2,r3⟩ := yG9 (s2 := s2) (cnt := cnt) hV h2
  by_cases c : cnK M k = cnt
  ·exact ⟨k,G',G.length + 1,cnt,r2 c,r1.gr,h4 c⟩
  ·rw [r3 c]
   have hg := xYI hV hn k
   refine ih (k + 1) G' (G.length + 1) .any (cnK M k) (by omega) ⟨r1.g0,r1.gr,by omega,xFf M (k + 1),xYH hn hV.n0 (k + 1)⟩ hg.1 ?_
   intro hc s t hs ht
   exact yDU hV hn hc hs ht
set_option maxHeartbeats 1000000 in
theorem xYJ {M : Ma} (hV : Vm M) (hn : M.next.length ≤ 100) : ∃ K,Cls M K ∧ L.pcall 69 [M.av] = some (.sl false M.next.length (xAA (clK M (K + 1)))) := by
 have h0 : 0 < cnK M 0 := Nat.lt_of_le_of_lt (Nat.zero_le _) (xJp M (clK M 0) hV.n0)
 obtain ⟨K,G',p,cnt',e1,e2,e3⟩ := yDV hV hn (M.next.length + 1) 0 [.cells false false M.cells,.cells false false (xAA (List.replicate M.next.length 0))] 1 (.sl true 0 []) 0 (by omega) ⟨rfl,rfl,by omega,xFf M 0,xYH hn hV.n0 0⟩ (by omega) (fun h => by omega)
 refine ⟨K,e3,?_⟩
 have hz : xAA (List.replicate M.next.length 0) = List.replicate M.next.length (.int .i64 0) := by unfold xAA; simp
 have hn9 := hV.n9
 have hlen : (clK M (K + 1)).length = M.next.length := xFf M (K + 1)
 change L.loop xFL xOw ⟨xOx (.ptr 0 0) (.sl true 0 []) (.own false 1 0 M.next.length 1) (.int .i64 0),_⟩ = _ at e1
 have htk : List.take M.next.length (xAA (clK M (K + 1))) = xAA (clK M (K + 1)) := List.take_of_length_le (by rw [xAy]; omega)
 unfold Ma.av
 unfold Ma.cells at e1 ⊢
 rw [yHX,a69,xAf]
 simp (maxSteps := 30000000) (disch := first | assumption | omega | (simp only [WL,AV.isCell] <;> omega) | rfl | decide) only [WB,Nat.reduceSub,AV.cells,AV.isCell,↓reduceIte,xAl,xOy,e1,xAx,e2,htk]
def Sim (M N : Ma) (s t : Nat) : Prop := ∀ w : List Nat,(∀ x ∈ w,x < two M.i) → xQf M s w = xQf N t w
theorem xYK {M N : Ma} (hM : Vm M) (hN : Vm N) (hi : M.i = N.i) {s t : Nat} (hs : s < M.next.length) (ht : t < N.next.length) (h : ∀ i,i < two M.i → em M s i = em N t i) : M.emit.getD s [] = N.emit.getD t [] := by
 have l1 := hM.wl' hs
 have l2 := hN.wl' ht
 rw [← hi] at l2
 apply List.ext_getElem (by omega)
 intro i a b
 have := h i (by omega)
 unfold em at this
 rw [List.getD_eq_getElem?_getD (l := M.emit.getD s []),List.getD_eq_getElem?_getD (l := N.emit.getD t []),List.getElem?_eq_getElem a,List.getElem?_eq_getElem b] at this
 exact this
theorem xYL {M : Ma} (hV : Vm M) (hn : M.next.length ≤ 100) {K : Nat} (hC : Cls M K) : ∀ (w : List Nat) (s t : Nat),s < M.next.length → t < M.next.length → xMb M (K + 1) s t → (∀ x ∈ w,x < two M.i) → xQf M s w = xQf M t w
 | [],_,_,_,_,_,_ => rfl
 | x :: r,s,t,hs,ht,h,hw => by
  obtain ⟨a,b⟩ := (xF3 hV hn hs ht).1 h
  have hx := hw x (by simp)
  have hb := (hC _ _ (hV.nx hs hx) (hV.nx ht hx)).2 (b x hx)
  rw [xQf,xQf,xYL hV hn hC r _ _ (hV.nx hs hx) (hV.nx ht hx) hb (fun y hy => hw y (by simp [hy]))]
  unfold em
  rw [a]
theorem xYM {M : Ma} (hV : Vm M) (hn : M.next.length ≤ 100) : ∀ (k s t : Nat),s < M.next.length → t < M.next.length → Sim M M s t → xMb M k s t
 | 0,s,t,hs,ht,_ => by
  unfold xMb clK
  simp only [List.getD_eq_getElem?_getD,List.getElem?_replicate,hs,ht,if_true]
 | k + 1,s,t,hs,ht,h => by
  refine (xF3 hV hn hs ht).2 ⟨xYK hV hV rfl hs ht fun i hi => ?_,fun i hi => xYM hV hn k _ _ (hV.nx hs hi) (hV.nx ht hi) ?_⟩
  ·have := h [i] (by simpa using hi)
   simpa [xQf] using this
  ·intro w hw
   have := h (i :: w) (fun y hy => by rcases List.mem_cons.1 hy with rfl | hy; exact hi; exact hw y hy)
   rw [xQf,xQf] at this
   injection this
theorem yDW {M : Ma} (hV : Vm M) (hn : M.next.length ≤ 100) {K : Nat} (hC : Cls M K) {s t : Nat} (hs : s < M.next.length) (ht : t < M.next.length) : xMb M (K + 1) s t ↔ Sim M M s t :=
 ⟨fun h w hw => xYL hV hn hC w s t hs ht h hw,fun h => xYM hV hn (K + 1) s t hs ht h⟩
def xJt (cl : List Nat) : List Nat → Nat → Nat → List Nat
 | l,_,0 => l
 | l,i,e + 1 => xJt cl (l.set (cl.getD i 0) i) (i + 1) e
theorem xQh (cl : List Nat) : ∀ (e i : Nat) (l : List Nat),(xJt cl l i e).length = l.length
 | 0,_,_ => rfl
 | e + 1,i,l => by rw [xJt,xQh cl e]; simp
theorem xTQ (cl : List Nat) : ∀ (e i : Nat) (l : List Nat) (j : Nat),j < l.length → ((∃ s,i ≤ s ∧ s < i + e ∧ cl.getD s 0 = j) ∨ cl.getD (l.getD j 0) 0 = j ∧ l.getD j 0 < i) → cl.getD ((xJt cl l i e).getD j 0) 0 = j ∧ (xJt cl l i e).getD j 0 < i + e
 | 0,i,l,j,hj,h => by
  rcases h with ⟨s,a,b,_⟩ | h
  ·omega
  ·exact h
 | e + 1,i,l,j,hj,h => by
  rw [xJt]
  have := xTQ cl e (i + 1) (l.set (cl.getD i 0) i) j (by simpa using hj) (by
   by_cases c : cl.getD i 0 = j
   ·refine .inr ?_
    have hse : (l.set (cl.getD i 0) i).getD j 0 = i := by rw [c,List.getD_eq_getElem?_getD,List.getElem?_set_self hj]; rfl
    rw [hse]
    exact ⟨c,by omega⟩
   ·have hne : (l.set (cl.getD i 0) i).getD j 0 = l.getD j 0 := by rw [List.getD_eq_getElem?_getD,List.getElem?_set_ne c,← List.getD_eq_getElem?_getD]
    rcases h with ⟨s,a,b,d⟩ | h
    ·by_cases e' : s = i
     ·subst e'; exact absurd d c
     ·exact .inl ⟨s,by omega,by omega,d⟩
    ·refine .inr ?_
     rw [hne]
     exact ⟨h.1,by omega⟩)
  exact ⟨this.1,by omega⟩
theorem yFP {cl : List Nat} {n p b : Nat} {s1 s2 s5 : AV} (hn : n < 1099511627) (hl : cl.length = n) (hc : ∀ x ∈ cl,x < n) (hpb : p ≠ b) : ∀ e i (l : List Nat) (G : Heap),i + e = n → l.length = n → G[b]? = some (.cells false false [.own false p 0 n 1]) → G[p]? = some (.cells false false (xAA l)) →
  L.loop xKh xVF ⟨xKi s1 s2 s5 (.ptr b 0) (.sl false n (xAA cl)) (.int .i64 (n : Nat)) (.int .i64 (i : Nat)),G⟩ =
   some (.exit 0,⟨xKi s1 s2 s5 (.ptr b 0) (.sl false n (xAA cl)) (.int .i64 (n : Nat)) (.int .i64 (n : Nat)),G.set p (.cells false false (xAA (xJt cl l i e)))⟩) := by
 intro e
 induction e with
 | zero =>
  intro i l G hi hl1 g1 g2
  obtain rfl : i = n := by omega
  have hG := xAI g2
  have xCO : G.set p (.cells false false (xAA l)) = G := by
   apply List.ext_getElem?
   intro q
   by_cases c : p = q
   ·subst c; rw [xCt hG,g2]
   ·rw [xAS c]
  rw [xJt,xCO,yA7]
  simp (maxSteps := 30000000) (disch := first | assumption | omega | (simp only [WL,AV.isCell] <;> omega) | rfl | decide) only [xRB,WB,↓reduceIte,xVG]
 | succ e ih =>
  intro i l G hi hl1 g1 g2
  have hG := xAI g2
  have hlt : ((i : Nat) : Int) < (n : Nat) := by omega
  have hi2 : i < n := by omega
  have hi3 : i < cl.length := by omega
  have hx := hc _ (xAh (a := 0) hi3)
  have ih' := ih (i + 1) (l.set (cl.getD i 0) i) (G.set p (.cells false false (xAA (l.set (cl.getD i 0) i)))) (by omega) (by simpa using hl1) (by rw [xAS hpb,g1]) (xCt hG)
  rw [List.set_set] at ih'
  have hx2 : cl.getD i 0 < l.length := by omega
  rw [xJt,yA7]
  simp (maxSteps := 30000000) (disch := first | assumption | omega | (simp only [WL,AV.isCell] <;> omega) | rfl | decide) only [xRB,WB,hlt,↓reduceIte,g1,AV.cells,g2,xVG,ih']
def xFi (ks : List Nat) (c : Nat) : List Nat := if c ∈ ks then ks else ks ++ [c]
def yAP (cl row : List Nat) : List Nat × List Nat → Nat → Nat → List Nat × List Nat
 | st,_,0 => st
 | st,i,e + 1 => yAP cl row (st.1.set i (pos (cl.getD (row.getD i 0) 0) (xFi st.2 (cl.getD (row.getD i 0) 0))),xFi st.2 (cl.getD (row.getD i 0) 0)) (i + 1) e
section
variable {P : Nat → Prop} {T : Nat} {G : Heap} {ks : List Nat}
theorem xYN {k : Nat} (hT : ¬ P T) (hB : ∀ n,G.length ≤ n → P n) (h : QN P T G ks) (hl : ks.length < 1099511627) :
  ∃ G' b,L.icall (.func 70 []) [.ptr T 0,.int .i64 (k : Nat)] G = some (.tup [.int .i64 (pos k (xFi ks k) : Nat),.bool b],G') ∧ QN P T G' (xFi ks k) ∧ KtP P T G G' := by
 unfold xFi
 by_cases hk : k ∈ ks
 ·obtain ⟨G',e1,e2,e3⟩ := xYC hT hB h hk hl
  rw [if_pos hk]
  exact ⟨G',false,e1,e2,e3⟩
 ·obtain ⟨G',e1,e2,e3⟩ := xYB hT hB h hk hl
  rw [if_neg hk]
  have hp : ∀ l : List Nat,k ∉ l → pos k (l ++ [k]) = l.length := by
   intro l
   induction l with
   | nil => intro _; simp [pos]
   | cons a t ih =>
    intro hn
    rw [List.cons_append,pos,if_neg (fun e => hn (by simp [e])),ih (fun e => hn (by simp [e])),List.length_cons]
  rw [hp ks hk]
  exact ⟨G',true,e1,e2,e3⟩
theorem yAQ (ks : List Nat) (k : Nat) : (xFi ks k).length ≤ ks.length + 1 := by
 unfold xFi
 split <;> simp
theorem QN.setr {p : Nat} (h : QN P T G ks) (hp : ¬ P p) (hT : p ≠ T) (b : Blk) : QN P T (G.set p b) ks := by
 obtain ⟨mv,lv,q1,q2⟩ := h
 refine ⟨mv,lv,by rw [xAS hT,q1],?_⟩
 rcases q2 with q2 | ⟨q,r,e1,e2,p1,p2,m1,m2⟩
 ·exact .inl q2
 ·exact .inr ⟨q,r,e1,e2,p1,p2,by rw [xAS (fun e : p = q => hp (e ▸ p1)),m1],by rw [xAS (fun e : p = r => hp (e ▸ p2)),m2]⟩
end
section
variable {P : Nat → Prop} {T p cb n : Nat} {cl row : List Nat} {s1 s2 s12 : AV}
theorem yHb (hT : ¬ P T) (hp : ¬ P p) (hc : ¬ P cb) (pT : p ≠ T) (cT : cb ≠ T) (pc : p ≠ cb) (hrow : row.length < 1000) (hcl : cl.length < 1099511627) (hr : ∀ x ∈ row,x < cl.length) : ∀ e i (st : List Nat × List Nat) (G : Heap),i + e = row.length → st.1.length = row.length → st.2.length + e < 1099511627 → (∀ n,G.length ≤ n → P n) →
  G[p]? = some (.cells false false (xAA st.1)) → G[cb]? = some (.cells false false [.sl false cl.length (xAA cl)]) → QN P T G st.2 →
  ∃ G',L.loop xKj xVH ⟨xKk s1 s2 (.ptr cb 0) (.ptr T 0) s12 (.own false p 0 row.length 1) (.sl false row.length (xAA row)) (.int .i64 (row.length : Nat)) (.int .i64 (i : Nat)),G⟩ =
   some (.exit 4,⟨xKk s1 s2 (.ptr cb 0) (.ptr T 0) s12 (.own false p 0 row.length 1) (.sl false row.length (xAA row)) (.int .i64 (row.length : Nat)) (.int .i64 (row.length : Nat)),G'⟩) ∧
   G'[p]? = some (.cells false false (xAA (yAP cl row st i e).1)) ∧ QN P T G' (yAP cl row st i e).2 ∧ G.length ≤ G'.length ∧ ∀ b,¬ P b → b ≠ T → b ≠ p → G'[b]? = G[b]? := by
 intro e
 induction e with
 | zero =>
  intro i st G hi hl hk hB g1 g2 hq
  obtain rfl : i = row.length := by omega
  refine ⟨G,?_,g1,hq,Nat.le_refl _,fun _ _ _ _ => rfl⟩
  rw [yA8]
  simp (maxSteps := 30000000) (disch := first | assumption | omega | (simp only [WL,AV.isCell] <;> omega) | rfl | decide) only [xRC,WB,↓reduceIte,xRD]
 | succ e ih =>
  intro i st G hi hl hk hB g1 g2 hq
  have hlt : ((i : Nat) : Int) < (row.length : Nat) := by omega
  have hi2 : i < row.length := by omega
  have hi3 : i < st.1.length := by omega
  have hx := hr _ (xAh (a := 0) hi2)
  obtain ⟨G1,b,k1,k2,k3⟩ := xYN (k := cl.getD (row.getD i 0) 0) hT hB hq (by omega)
  have f1 : G1[p]? = some (.cells false false (xAA st.1)) := (k3.2 p hp pT).trans g1
  have f2 : G1[cb]? = some (.cells false false [.sl false cl.length (xAA cl)]) := (k3.2 cb hc cT).trans g2
  have hG1 := xAI f1
  have hpl := yAQ st.2 (cl.getD (row.getD i 0) 0)
  obtain ⟨G2,m1,m2,m3,m4,m5⟩ := ih (i + 1) (st.1.set i (pos (cl.getD (row.getD i 0) 0) (xFi st.2 (cl.getD (row.getD i 0) 0))),xFi st.2 (cl.getD (row.getD i 0) 0)) (G1.set p (.cells false false (xAA (st.1.set i (pos (cl.getD (row.getD i 0) 0) (xFi st.2 (cl.getD (row.getD i 0) 0))))))) (by omega) (by simpa using hl) (by simp only; omega) (fun n hn => hB n (by have := k3.1; rw [List.length_set] at hn; omega)) (xCt hG1) (by rw [xAS pc,f2]) (k2.setr hp pT _)
  refine ⟨G2,?_,m2,m3,by have := k3.1; rw [List.length_set] at m4; omega,fun b a1 a2 a3 => (m5 b a1 a2 a3).trans ((xAS (fun e => a3 e.symm)).trans (k3.2 b a1 a2))⟩
  generalize pos (cl.getD (row.getD i 0) 0) (xFi st.2 (cl.getD (row.getD i 0) 0)) = num at *
  rw [yA8]
  simp (maxSteps := 30000000) (disch := first | assumption | omega | (simp only [WL,AV.isCell] <;> omega) | rfl | decide) only [xRC,WB,hlt,↓reduceIte,g2,k1,AV.cells,f1,xRD,m1]
end
def rwG : List Nat → List Nat → List Nat × List Nat
 | [],ks => ([],ks)
 | c :: cs,ks => (pos c (xFi ks c) :: (rwG cs (xFi ks c)).1,(rwG cs (xFi ks c)).2)
theorem xNb {l : List Nat} {i x : Nat} (h : i < l.length) : (l.set i x).take (i + 1) = l.take i ++ [x] := by
 rw [List.take_add_one,List.take_set_of_le (Nat.le_refl _),List.getElem?_set_self h]
 rfl
theorem xTR (cl row : List Nat) : ∀ (e i : Nat) (l ks : List Nat),i + e = row.length → l.length = row.length →
  yAP cl row (l,ks) i e = (l.take i ++ (rwG ((row.drop i).map fun t => cl.getD t 0) ks).1,(rwG ((row.drop i).map fun t => cl.getD t 0) ks).2)
 | 0,i,l,ks,h,hl => by
  obtain rfl : i = row.length := by omega
  rw [yAP,List.drop_eq_nil_of_le (Nat.le_refl _),List.map_nil,rwG,List.take_of_length_le (Nat.le_of_eq hl),List.append_nil]
 | e + 1,i,l,ks,h,hl => by
  have hi : i < row.length := by omega
  rw [yAP,xTR cl row e (i + 1) _ _ (by omega) (by simpa using hl),xAD (a := 0) hi,List.map_cons,rwG,xNb (show i < l.length by omega),List.append_assoc]
  rfl
theorem xTS (cl row ks : List Nat) : yAP cl row (List.replicate row.length 0,ks) 0 row.length = rwG (row.map fun t => cl.getD t 0) ks := by
 rw [xTR cl row row.length 0 _ ks (by omega) (by simp)]
 simp
theorem yAR (ks : List Nat) (c : Nat) : ∃ r,xFi ks c = ks ++ r := by
 unfold xFi
 split
 ·exact ⟨[],by simp⟩
 ·exact ⟨[c],rfl⟩
theorem xTT (ks : List Nat) (c : Nat) : c ∈ xFi ks c := by
 unfold xFi
 split
 ·assumption
 ·simp
theorem yDX {ks : List Nat} (h : ks.Nodup) (c : Nat) : (xFi ks c).Nodup := by
 unfold xFi
 split
 ·exact h
 ·rename_i hc
  refine List.nodup_append.2 ⟨h,by simp,?_⟩
  intro a ha b hb
  rw [List.mem_singleton] at hb
  subst hb
  exact fun e => hc (e ▸ ha)
theorem xRa : ∀ (cs ks : List Nat),∃ r,(rwG cs ks).2 = ks ++ r
 | [],ks => ⟨[],by simp [rwG]⟩
 | c :: cs,ks => by
  obtain ⟨r,h⟩ := yAR ks c
  obtain ⟨r',h'⟩ := xRa cs (xFi ks c)
  exact ⟨r ++ r',by rw [rwG]; simp only; rw [h',h,List.append_assoc]⟩
theorem yCl : ∀ (cs : List Nat) {ks : List Nat},ks.Nodup → (rwG cs ks).2.Nodup
 | [],ks,h => h
 | c :: cs,ks,h => yCl cs (yDX h c)
theorem xTU : ∀ (cs : List Nat) {ks : List Nat} {x : Nat},x ∈ (rwG cs ks).2 → x ∈ ks ∨ x ∈ cs
 | [],ks,x,h => .inl h
 | c :: cs,ks,x,h => by
  rcases xTU cs h with h | h
  ·unfold xFi at h
   split at h
   ·exact .inl h
   ·rcases List.mem_append.1 h with h | h
    ·exact .inl h
    ·exact .inr (by simp_all)
  ·exact .inr (by simp [h])
theorem xRb : ∀ (cs ks : List Nat),(rwG cs ks).1.length = cs.length
 | [],_ => rfl
 | c :: cs,ks => by rw [rwG]; simp [xRb cs]
theorem yCm : ∀ (cs ks : List Nat) (i : Nat),i < cs.length → cs.getD i 0 ∈ (rwG cs ks).2 ∧ (rwG cs ks).1.getD i 0 = pos (cs.getD i 0) (rwG cs ks).2
 | c :: cs,ks,0,_ => by
  obtain ⟨r,h⟩ := xRa cs (xFi ks c)
  rw [rwG]
  simp only [List.getD_cons_zero]
  rw [h,xM7 r (xTT ks c)]
  exact ⟨List.mem_append_left _ (xTT ks c),rfl⟩
 | c :: cs,ks,i + 1,h => by
  have := yCm cs (xFi ks c) i (by simpa using h)
  rw [rwG]
  simpa using this
structure Num (M : Ma) (cl : List Nat) : Prop where
 len : cl.length = M.next.length
 lt : ∀ x ∈ cl,x < M.next.length
 iff : ∀ s t,s < M.next.length → t < M.next.length → (cl.getD s 0 = cl.getD t 0 ↔ Sim M M s t)
theorem Sim.symm {A B : Ma} (hi : A.i = B.i) {s t : Nat} (h : Sim A B s t) : Sim B A t s := fun w hw => (h w (by rw [hi]; exact hw)).symm
theorem Sim.trans {A B C : Ma} (hi : A.i = B.i) {s t u : Nat} (h : Sim A B s t) (h' : Sim B C t u) : Sim A C s u := fun w hw => (h w hw).trans (h' w (by rw [← hi]; exact hw))
theorem Sim.next {A B : Ma} {s t i : Nat} (h : Sim A B s t) (hi : i < two A.i) : em A s i = em B t i ∧ Sim A B (nx A s i) (nx B t i) := by
 constructor
 ·have := h [i] (by simpa using hi)
  simpa [xQf] using this
 ·intro w hw
  have := h (i :: w) (fun y hy => by rcases List.mem_cons.1 hy with rfl | hy; exact hi; exact hw y hy)
  rw [xQf,xQf] at this
  injection this
theorem xQi : ∀ (l r : List Nat) (a b : Nat),l.length = r.length → (∀ p,p < l.length → (l.getD p 0 = a ↔ r.getD p 0 = b)) → pos a l = pos b r ∧ (a ∈ l ↔ b ∈ r)
 | [],[],a,b,_,_ => ⟨rfl,by simp⟩
 | [],_ :: _,_,_,h,_ => by simp at h
 | _ :: _,[],_,_,h,_ => by simp at h
 | x :: l,y :: r,a,b,h,hp => by
  have h0 := hp 0 (by simp)
  simp only [List.getD_cons_zero] at h0
  obtain ⟨e1,e2⟩ := xQi l r a b (by simpa using h) (fun p hq => by have := hp (p + 1) (by simpa using hq); simpa using this)
  by_cases c : x = a
  ·have c' := h0.1 c
   subst c
   subst c'
   exact ⟨by simp [pos],by simp⟩
  ·have c' : ¬ y = b := fun e => c (h0.2 e)
   refine ⟨?_,?_⟩
   ·rw [pos,pos]
    first
     | rw [if_neg c,if_neg c',e1]
     | rw [if_neg (fun e => c e.symm),if_neg (fun e => c' e.symm),e1]
   ·simp only [List.mem_cons]
    rw [e2]
    constructor
    ·rintro (e | e)
     ·exact absurd e.symm c
     ·exact .inr e
    ·rintro (e | e)
     ·exact absurd e.symm c'
     ·exact .inr e
section
variable {A B : Ma} {ca cb : List Nat}
def InS (A B : Ma) (ca cb ka kb : List Nat) : Prop := ka.length = kb.length ∧ ∀ p,p < ka.length → ∃ s t,s < A.next.length ∧ t < B.next.length ∧ ca.getD s 0 = ka.getD p 0 ∧ cb.getD t 0 = kb.getD p 0 ∧ Sim A B s t
theorem InS.iff (hi : A.i = B.i) (hA : Num A ca) (hB : Num B cb) {ka kb : List Nat} (h : InS A B ca cb ka kb) {s t : Nat} (hs : s < A.next.length) (ht : t < B.next.length) (hst : Sim A B s t) : pos (ca.getD s 0) ka = pos (cb.getD t 0) kb ∧ (ca.getD s 0 ∈ ka ↔ cb.getD t 0 ∈ kb) := by
 refine xQi ka kb _ _ h.1 fun p hp => ?_
 obtain ⟨s',t',h1,h2,h3,h4,h5⟩ := h.2 p hp
 rw [← h3,← h4,hA.iff _ _ h1 hs,hB.iff _ _ h2 ht]
 exact ⟨fun e => ((h5.symm hi).trans hi.symm e).trans hi.symm hst,fun e => (h5.trans hi e).trans hi (hst.symm hi)⟩
theorem InS.put (hi : A.i = B.i) (hA : Num A ca) (hB : Num B cb) {ka kb : List Nat} (h : InS A B ca cb ka kb) {s t : Nat} (hs : s < A.next.length) (ht : t < B.next.length) (hst : Sim A B s t) : InS A B ca cb (xFi ka (ca.getD s 0)) (xFi kb (cb.getD t 0)) := by
 have hm := (h.iff hi hA hB hs ht hst).2
 unfold xFi
 by_cases c : ca.getD s 0 ∈ ka
 ·rw [if_pos c,if_pos (hm.1 c)]
  exact h
 ·rw [if_neg c,if_neg (fun e => c (hm.2 e))]
  refine ⟨by simp [h.1],fun p hp => ?_⟩
  rw [List.length_append,List.length_singleton] at hp
  by_cases cp : p < ka.length
  ·obtain ⟨s',t',h1,h2,h3,h4,h5⟩ := h.2 p cp
   exact ⟨s',t',h1,h2,by rw [xAQ _ _ _ cp,h3],by rw [xAQ _ _ _ (h.1 ▸ cp),h4],h5⟩
  ·obtain rfl : p = ka.length := by omega
   refine ⟨s,t,hs,ht,?_,?_,hst⟩
   ·rw [xCm]
   ·rw [h.1,xCm]
theorem InS.row (hi : A.i = B.i) (hA : Num A ca) (hB : Num B cb) : ∀ (l : List (Nat × Nat)) {ka kb : List Nat},InS A B ca cb ka kb → (∀ x ∈ l,x.1 < A.next.length ∧ x.2 < B.next.length ∧ Sim A B x.1 x.2) →
  (rwG (l.map fun x => ca.getD x.1 0) ka).1 = (rwG (l.map fun x => cb.getD x.2 0) kb).1 ∧ InS A B ca cb (rwG (l.map fun x => ca.getD x.1 0) ka).2 (rwG (l.map fun x => cb.getD x.2 0) kb).2
 | [],ka,kb,h,_ => ⟨rfl,h⟩
 | x :: l,ka,kb,h,hl => by
  obtain ⟨h1,h2,h3⟩ := hl x (by simp)
  have hp := h.put hi hA hB h1 h2 h3
  obtain ⟨e1,e2⟩ := InS.row hi hA hB l hp (fun y hy => hl y (by simp [hy]))
  have e3 := (hp.iff hi hA hB h1 h2 h3).1
  simp only [List.map_cons,rwG]
  rw [e1,e3]
  exact ⟨rfl,e2⟩
end
abbrev Mst := List Nat × List (List Nat) × List (List Nat)
def spO (cl : List Nat) : List Nat := xJt cl (List.replicate cl.length 0) 0 cl.length
def xNc (M : Ma) (cl : List Nat) (k : Nat) (st : Mst) : Mst :=
 ((rwG ((M.next.getD ((spO cl).getD (st.1.getD k 0) 0) []).map fun t => cl.getD t 0) st.1).2,
  st.2.1 ++ [(rwG ((M.next.getD ((spO cl).getD (st.1.getD k 0) 0) []).map fun t => cl.getD t 0) st.1).1],
  st.2.2 ++ [M.emit.getD ((spO cl).getD (st.1.getD k 0) 0) []])
def yAS (M : Ma) (cl : List Nat) : Nat → Nat → Mst → Mst
 | 0,_,st => st
 | e + 1,k,st => if k < st.1.length then yAS M cl e (k + 1) (xNc M cl k st) else st
def xNd (M : Ma) (cl : List Nat) : Mst := yAS M cl (M.next.length + 1) 0 ([cl.getD M.s 0],[],[])
def xEP (M : Ma) (cl : List Nat) : Ma := ⟨M.i,M.o,0,(xNd M cl).2.1,(xNd M cl).2.2⟩
theorem yCn {M : Ma} {cl : List Nat} (h : Num M cl) {s : Nat} (hs : s < M.next.length) : (spO cl).getD (cl.getD s 0) 0 < M.next.length ∧ cl.getD ((spO cl).getD (cl.getD s 0) 0) 0 = cl.getD s 0 := by
 have hl := h.len
 have hx := h.lt _ (xAh (a := 0) (show s < cl.length by omega))
 have := xTQ cl cl.length 0 (List.replicate cl.length 0) (cl.getD s 0) (by rw [List.length_replicate]; omega) (.inl ⟨s,by omega,by omega,rfl⟩)
 unfold spO
 exact ⟨by omega,this.1⟩
def IsC (M : Ma) (cl : List Nat) (c : Nat) : Prop := ∃ s,s < M.next.length ∧ cl.getD s 0 = c
theorem IsC.sp {M : Ma} {cl : List Nat} (h : Num M cl) {c : Nat} (hc : IsC M cl c) : (spO cl).getD c 0 < M.next.length ∧ cl.getD ((spO cl).getD c 0) 0 = c := by
 obtain ⟨s,hs,rfl⟩ := hc
 exact yCn h hs
theorem IsC.lt {M : Ma} {cl : List Nat} (h : Num M cl) {c : Nat} (hc : IsC M cl c) : c < M.next.length := by
 obtain ⟨s,hs,rfl⟩ := hc
 exact h.lt _ (xAh (a := 0) (by have := h.len; omega))
structure OI (M : Ma) (cl : List Nat) (k : Nat) (st : Mst) : Prop where
 nd : st.1.Nodup
 isc : ∀ c ∈ st.1,IsC M cl c
 l1 : st.2.1.length = k
 l2 : st.2.2.length = k
 le : k ≤ st.1.length
 first : st.1.getD 0 0 = cl.getD M.s 0
 pos : 0 < st.1.length
 row : ∀ j,j < k → (st.2.1.getD j []).length = two M.i ∧ st.2.2.getD j [] = M.emit.getD ((spO cl).getD (st.1.getD j 0) 0) [] ∧ ∀ i,i < two M.i → cl.getD (nx M ((spO cl).getD (st.1.getD j 0) 0) i) 0 ∈ st.1 ∧ (st.2.1.getD j []).getD i 0 = Mealy.pos (cl.getD (nx M ((spO cl).getD (st.1.getD j 0) 0) i) 0) st.1
section
variable {M : Ma} {cl : List Nat}
theorem OI.len {k : Nat} {st : Mst} (h : OI M cl k st) (hN : Num M cl) : st.1.length ≤ M.next.length := xF0 _ _ h.nd fun c hc => (h.isc c hc).lt hN
theorem OI.start (hV : Vm M) : OI M cl 0 ([cl.getD M.s 0],[],[]) :=
 ⟨by simp,fun c hc => ⟨M.s,hV.s,by simp at hc; exact hc.symm⟩,rfl,rfl,by simp,rfl,by simp,fun j hj => by omega⟩
theorem xYO (f : Nat → Nat) {l : List Nat} {i : Nat} (h : i < l.length) : (l.map f).getD i 0 = f (l.getD i 0) := by
 rw [List.getD_eq_getElem?_getD,List.getD_eq_getElem?_getD,List.getElem?_map,List.getElem?_eq_getElem h]
 rfl
theorem OI.step (hV : Vm M) (hN : Num M cl) {k : Nat} {st : Mst} (h : OI M cl k st) (hk : k < st.1.length) : OI M cl (k + 1) (xNc M cl k st) := by
 obtain ⟨hs1,hs2⟩ := (h.isc _ (xAh (a := 0) hk)).sp hN
 obtain ⟨r,hr⟩ := xRa ((M.next.getD ((spO cl).getD (st.1.getD k 0) 0) []).map fun t => cl.getD t 0) st.1
 have hrl : (M.next.getD ((spO cl).getD (st.1.getD k 0) 0) []).length = two M.i := hV.rl _ (xAh hs1)
 have hat : ∀ j,j < st.1.length → (xNc M cl k st).1.getD j 0 = st.1.getD j 0 := by
  intro j hj
  unfold xNc
  simp only
  rw [hr,xAQ _ _ _ hj]
 have hle : st.1.length ≤ (xNc M cl k st).1.length := by
  unfold xNc
  simp only
  rw [hr,List.length_append]
  omega
 refine ⟨yCl _ h.nd,?_,?_,?_,by omega,by rw [hat 0 h.pos,h.first],by have := h.pos; omega,?_⟩
 ·intro c hc
  rcases xTU _ hc with hc | hc
  ·exact h.isc c hc
  ·obtain ⟨t,ht,rfl⟩ := List.mem_map.1 hc
   exact ⟨t,hV.rb _ (xAh hs1) t ht,rfl⟩
 ·show (st.2.1 ++ [_]).length = k + 1
  rw [List.length_append,h.l1]
  rfl
 ·show (st.2.2 ++ [_]).length = k + 1
  rw [List.length_append,h.l2]
  rfl
 ·intro j hj
  by_cases c : j < k
  ·obtain ⟨a1,a2,a3⟩ := h.row j c
   have g1 : (xNc M cl k st).2.1.getD j [] = st.2.1.getD j [] := xAQ _ _ _ (by rw [h.l1]; exact c)
   have g2 : (xNc M cl k st).2.2.getD j [] = st.2.2.getD j [] := xAQ _ _ _ (by rw [h.l2]; exact c)
   rw [g1,g2,hat j (by omega)]
   refine ⟨a1,a2,fun i hi => ?_⟩
   obtain ⟨b1,b2⟩ := a3 i hi
   have e : (xNc M cl k st).1 = st.1 ++ r := hr
   rw [e,b2,xM7 r b1]
   exact ⟨List.mem_append_left _ b1,rfl⟩
  ·obtain rfl : j = k := by omega
   have g1 : (xNc M cl j st).2.1.getD j [] = (rwG ((M.next.getD ((spO cl).getD (st.1.getD j 0) 0) []).map fun t => cl.getD t 0) st.1).1 := by
    unfold xNc
    simp only
    conv => lhs; rw [← h.l1]
    rw [h.l1]
    have := xCm st.2.1 (rwG ((M.next.getD ((spO cl).getD (st.1.getD j 0) 0) []).map fun t => cl.getD t 0) st.1).1 []
    rw [h.l1] at this
    exact this
   have g2 : (xNc M cl j st).2.2.getD j [] = M.emit.getD ((spO cl).getD (st.1.getD j 0) 0) [] := by
    have := xCm st.2.2 (M.emit.getD ((spO cl).getD (st.1.getD j 0) 0) []) []
    rw [h.l2] at this
    exact this
   rw [g1,g2,hat j hk]
   refine ⟨by rw [xRb,List.length_map,hrl],rfl,fun i hi => ?_⟩
   have := yCm ((M.next.getD ((spO cl).getD (st.1.getD j 0) 0) []).map fun t => cl.getD t 0) st.1 i (by rw [List.length_map,hrl]; exact hi)
   rw [xYO _ (by rw [hrl]; exact hi)] at this
   exact this
theorem OI.all (hV : Vm M) (hN : Num M cl) : ∀ (e k : Nat) (st : Mst),OI M cl k st → M.next.length < e + k → OI M cl (yAS M cl e k st).1.length (yAS M cl e k st)
 | 0,k,st,h,he => by
  have := h.len hN
  have := h.le
  omega
 | e + 1,k,st,h,he => by
  rw [yAS]
  by_cases c : k < st.1.length
  ·rw [if_pos c]
   exact OI.all hV hN e (k + 1) _ (h.step hV hN c) (by omega)
  ·rw [if_neg c]
   have := h.le
   obtain rfl : k = st.1.length := by omega
   exact h
theorem xRc (hV : Vm M) (hN : Num M cl) : OI M cl (xNd M cl).1.length (xNd M cl) := OI.all hV hN _ _ _ (OI.start hV) (by omega)
theorem xUJ (hV : Vm M) (hN : Num M cl) : Vm (xEP M cl) ∧ (xEP M cl).next.length ≤ M.next.length := by
 have h := xRc hV hN
 have hl := h.len hN
 have hn9 := hV.n9
 have e1 : (xEP M cl).next.length = (xNd M cl).1.length := h.l1
 have e2 : (xEP M cl).emit.length = (xNd M cl).1.length := h.l2
 have hmem : ∀ r ∈ (xEP M cl).next,∃ j,j < (xNd M cl).1.length ∧ r = (xNd M cl).2.1.getD j [] := by
  intro r hr
  obtain ⟨j,hj,rfl⟩ := List.getElem_of_mem hr
  refine ⟨j,by omega,?_⟩
  show _ = (xEP M cl).next.getD j []
  rw [List.getD_eq_getElem?_getD,List.getElem?_eq_getElem hj]
  rfl
 have hmem2 : ∀ r ∈ (xEP M cl).emit,∃ j,j < (xNd M cl).1.length ∧ r = M.emit.getD ((spO cl).getD ((xNd M cl).1.getD j 0) 0) [] := by
  intro r hr
  obtain ⟨j,hj,rfl⟩ := List.getElem_of_mem hr
  refine ⟨j,by omega,?_⟩
  rw [← (h.row j (by omega)).2.1]
  show _ = (xEP M cl).emit.getD j []
  rw [List.getD_eq_getElem?_getD,List.getElem?_eq_getElem hj]
  rfl
 have hsp : ∀ j,j < (xNd M cl).1.length → (spO cl).getD ((xNd M cl).1.getD j 0) 0 < M.emit.length := fun j hj => by
  rw [hV.el]
  exact ((h.isc _ (xAh (a := 0) hj)).sp hN).1
 refine ⟨⟨hV.io,by rw [e1]; exact h.pos,by omega,by rw [e1,e2],by rw [e1]; exact h.pos,?_,?_,?_,?_⟩,by omega⟩
 ·intro r hr
  obtain ⟨j,hj,rfl⟩ := hmem r hr
  exact (h.row j hj).1
 ·intro r hr
  obtain ⟨j,hj,rfl⟩ := hmem2 r hr
  exact hV.wl _ (xAh (hsp j hj))
 ·intro r hr x hx
  obtain ⟨j,hj,rfl⟩ := hmem r hr
  obtain ⟨i,hi,rfl⟩ := List.getElem_of_mem hx
  obtain ⟨b0,_,b⟩ := h.row j hj
  obtain ⟨b1,b2⟩ := b i (by omega)
  rw [List.getD_eq_getElem?_getD (l := (xNd M cl).2.1.getD j []),List.getElem?_eq_getElem hi,Option.getD_some] at b2
  rw [e1,b2]
  exact xTu b1
 ·intro r hr x hx
  obtain ⟨j,hj,rfl⟩ := hmem2 r hr
  exact hV.wb _ (xAh (hsp j hj)) x hx
end
section
variable {A B : Ma} {ca cb : List Nat}
end
end Go.Abs.Mealy
