/- EqualBytes and EqualInts. -/
import Derived.Test.YtkpbekcgigigkaaDoorAbsBun
import Derived.Test.YtkpbekcgigigkaaDoorAMA
import Derived.Test.YtkpbekcgigigkaaDoorAbsWalk
import Derived.Test.YtkpbekcgigigkaaDoorAMB
import Derived.Test.YtkpbekcgigigkaaDoorAMD
import Derived.Test.YtkpbekcgigigkaaDoorAME
import Derived.Test.YtkpbekcgigigkaaDoorAMC
import Derived.Test.YtkpbekcgigigkaaDoorAbsWalk4
namespace Go.Abs.Mealy
open Go Go.Abs
set_option linter.unusedSimpArgs false
set_option linter.unusedVariables false
theorem xYi {α : Type} {a b : List α} (h : a.length = b.length) (d : α) {i : Nat} (hi : i < a.length) : (a.drop i = b.drop i) ↔ (a.getD i d = b.getD i d ∧ a.drop (i + 1) = b.drop (i + 1)) := by
 rw [xAD (a := d) hi,xAD (a := d) (show i < b.length by omega)]
 simp
theorem yG2 {z1 z2 : Bool} {a b : List Nat} {H : Heap} (hl : a.length = b.length) (hm : a.length < 9223372036854775807) : ∀ e i,i + e = a.length →
  ∃ j : Nat,L.loop xNW xZI ⟨xKc (.sl z1 a.length (bs a)) (.sl z2 b.length (bs b)) (.bool false) (.int .i64 (i : Nat)),H⟩ =
   some (if a.drop i = b.drop i then (.exit 0,⟨xKc (.sl z1 a.length (bs a)) (.sl z2 b.length (bs b)) (.bool false) (.int .i64 (a.length : Nat)),H⟩)
    else (.ret,⟨xKc (.sl z1 a.length (bs a)) (.sl z2 b.length (bs b)) (.bool false) (.int .i64 (j : Nat)),H⟩)) := by
 intro e
 induction e with
 | zero =>
  intro i h
  obtain rfl : i = a.length := by omega
  refine ⟨0,?_⟩
  rw [if_pos (by rw [List.drop_length,hl,List.drop_length]),xVB]
  simp (maxSteps := 30000000) (disch := first | assumption | omega | (simp only [WL,AV.isCell] <;> omega) | rfl | decide) only [xKb,WB,↓reduceIte,xKd]
 | succ e ih =>
  intro i h
  have hlt : (i : Int) < (a.length : Nat) := by omega
  obtain ⟨j,ih'⟩ := ih (i + 1) (by omega)
  rw [← hl] at ih' ⊢
  have hd := xYi hl (0 : Nat) (show i < a.length by omega)
  by_cases c : a.getD i 0 = b.getD i 0
  ·refine ⟨j,?_⟩
   have hd' : (a.drop i = b.drop i) ↔ (a.drop (i + 1) = b.drop (i + 1)) := hd.trans ⟨fun h => h.2,fun h => ⟨c,h⟩⟩
   rw [xVB]
   by_cases e : a.drop (i + 1) = b.drop (i + 1)
   ·rw [if_pos e] at ih'
    rw [if_pos (hd'.2 e)]
    simp (maxSteps := 30000000) (disch := first | assumption | omega | (simp only [WL,AV.isCell] <;> omega) | rfl | decide) only [xKb,WB,hlt,↓reduceIte,c,xAc,xKd,ih']
   ·rw [if_neg e] at ih'
    rw [if_neg (fun h => e (hd'.1 h))]
    simp (maxSteps := 30000000) (disch := first | assumption | omega | (simp only [WL,AV.isCell] <;> omega) | rfl | decide) only [xKb,WB,hlt,↓reduceIte,c,xAc,xKd,ih']
  ·refine ⟨i,?_⟩
   have c' : (((a.getD i 0 : Nat) : Int) = ((b.getD i 0 : Nat) : Int)) = False := eq_false (by omega)
   rw [if_neg (fun h => c (hd.1 h).1),xVB]
   simp (maxSteps := 30000000) (disch := first | assumption | omega | (simp only [WL,AV.isCell] <;> omega) | rfl | decide) only [xKb,WB,hlt,↓reduceIte,xAc,c',xKd]
theorem yGf {z1 z2 : Bool} {a b : List Nat} (hm : a.length < 9223372036854775807) : L.pcall 23 [.sl z1 a.length (bs a),.sl z2 b.length (bs b)] = some (.bool (decide (a = b))) := by
 by_cases hl : a.length = b.length
 ·obtain ⟨j,h⟩ := yG2 (z1 := z1) (z2 := z2) (H := []) hl hm a.length 0 (by omega)
  simp only [Int.natCast_zero,List.drop_zero] at h
  rw [yHk,a23,xAf]
  by_cases c : a = b
  ·rw [if_pos c] at h
   rw [decide_eq_true c]
   rw [← hl] at h ⊢
   simp (maxSteps := 30000000) (disch := first | assumption | omega | (simp only [WL,AV.isCell] <;> omega) | rfl | decide) only [WB,Nat.reduceAdd,Nat.reduceSub,↓reduceIte,xKd,h]
  ·rw [if_neg c] at h
   rw [decide_eq_false c]
   rw [← hl] at h ⊢
   simp (maxSteps := 30000000) (disch := first | assumption | omega | (simp only [WL,AV.isCell] <;> omega) | rfl | decide) only [WB,Nat.reduceAdd,Nat.reduceSub,↓reduceIte,xKd,h]
 ·have hl' : (((a.length : Nat) : Int) = ((b.length : Nat) : Int)) = False := eq_false (by omega)
  rw [decide_eq_false (fun e => hl (by rw [e])),yHk,a23,xAf]
  simp (maxSteps := 30000000) (disch := first | assumption | omega | (simp only [WL,AV.isCell] <;> omega) | rfl | decide) only [WB,Nat.reduceAdd,Nat.reduceSub,hl',↓reduceIte]
theorem yG3 {z1 z2 : Bool} {a b : List Int} {H : Heap} (hl : a.length = b.length) (hm : a.length < 9223372036854775807) : ∀ e i,i + e = a.length →
  ∃ j : Nat,L.loop xNX xZJ ⟨xKf (.sl z1 a.length (xB3 a)) (.sl z2 b.length (xB3 b)) (.bool false) (.int .i64 (i : Nat)),H⟩ =
   some (if a.drop i = b.drop i then (.exit 0,⟨xKf (.sl z1 a.length (xB3 a)) (.sl z2 b.length (xB3 b)) (.bool false) (.int .i64 (a.length : Nat)),H⟩)
    else (.ret,⟨xKf (.sl z1 a.length (xB3 a)) (.sl z2 b.length (xB3 b)) (.bool false) (.int .i64 (j : Nat)),H⟩)) := by
 intro e
 induction e with
 | zero =>
  intro i h
  obtain rfl : i = a.length := by omega
  refine ⟨0,?_⟩
  rw [if_pos (by rw [List.drop_length,hl,List.drop_length]),xVC]
  simp (maxSteps := 30000000) (disch := first | assumption | omega | (simp only [WL,AV.isCell] <;> omega) | rfl | decide) only [xKe,WB,↓reduceIte,xKg]
 | succ e ih =>
  intro i h
  have hlt : (i : Int) < (a.length : Nat) := by omega
  obtain ⟨j,ih'⟩ := ih (i + 1) (by omega)
  rw [← hl] at ih' ⊢
  have hd := xYi hl (0 : Int) (show i < a.length by omega)
  by_cases c : a.getD i 0 = b.getD i 0
  ·refine ⟨j,?_⟩
   have hd' : (a.drop i = b.drop i) ↔ (a.drop (i + 1) = b.drop (i + 1)) := hd.trans ⟨fun h => h.2,fun h => ⟨c,h⟩⟩
   rw [xVC]
   by_cases e : a.drop (i + 1) = b.drop (i + 1)
   ·rw [if_pos e] at ih'
    rw [if_pos (hd'.2 e)]
    simp (maxSteps := 30000000) (disch := first | assumption | omega | (simp only [WL,AV.isCell] <;> omega) | rfl | decide) only [xKe,WB,hlt,↓reduceIte,W2,c,xAc,xKg,ih']
   ·rw [if_neg e] at ih'
    rw [if_neg (fun h => e (hd'.1 h))]
    simp (maxSteps := 30000000) (disch := first | assumption | omega | (simp only [WL,AV.isCell] <;> omega) | rfl | decide) only [xKe,WB,hlt,↓reduceIte,W2,c,xAc,xKg,ih']
  ·refine ⟨i,?_⟩
   have c' : ((a.getD i 0 : Int) = (b.getD i 0 : Int)) = False := eq_false c
   rw [if_neg (fun h => c (hd.1 h).1),xVC]
   simp (maxSteps := 30000000) (disch := first | assumption | omega | (simp only [WL,AV.isCell] <;> omega) | rfl | decide) only [xKe,WB,hlt,↓reduceIte,W2,xAc,c',xKg]
theorem yIc {z1 z2 : Bool} {a b : List Int} (hm : a.length < 9223372036854775807) : L.pcall 24 [.sl z1 a.length (xB3 a),.sl z2 b.length (xB3 b)] = some (.bool (decide (a = b))) := by
 by_cases hl : a.length = b.length
 ·obtain ⟨j,h⟩ := yG3 (z1 := z1) (z2 := z2) (H := []) hl hm a.length 0 (by omega)
  simp only [Int.natCast_zero,List.drop_zero] at h
  rw [yHl,a24,xAf]
  by_cases c : a = b
  ·rw [if_pos c] at h
   rw [decide_eq_true c]
   rw [← hl] at h ⊢
   simp (maxSteps := 30000000) (disch := first | assumption | omega | (simp only [WL,AV.isCell] <;> omega) | rfl | decide) only [WB,Nat.reduceAdd,Nat.reduceSub,↓reduceIte,xKg,h]
  ·rw [if_neg c] at h
   rw [decide_eq_false c]
   rw [← hl] at h ⊢
   simp (maxSteps := 30000000) (disch := first | assumption | omega | (simp only [WL,AV.isCell] <;> omega) | rfl | decide) only [WB,Nat.reduceAdd,Nat.reduceSub,↓reduceIte,xKg,h]
 ·have hl' : (((a.length : Nat) : Int) = ((b.length : Nat) : Int)) = False := eq_false (by omega)
  rw [decide_eq_false (fun e => hl (by rw [e])),yHl,a24,xAf]
  simp (maxSteps := 30000000) (disch := first | assumption | omega | (simp only [WL,AV.isCell] <;> omega) | rfl | decide) only [WB,Nat.reduceAdd,Nat.reduceSub,hl',↓reduceIte]
def Lst (B : Nat) (H : Heap) (v : AV) (cs : List AV) : Prop :=
 (cs = [] ∧ v = .sl true 0 []) ∨ ∃ id,v = .own false id 0 cs.length 1 ∧ H[id]? = some (.cells false false cs) ∧ B ≤ id ∧ cs ≠ []
def Kp (B : Nat) (H H' : Heap) : Prop := H.length ≤ H'.length ∧ ∀ b,b < B → H'[b]? = H[b]?
theorem Kp.refl (B : Nat) (H : Heap) : Kp B H H := ⟨Nat.le_refl _,fun _ _ => rfl⟩
theorem Kp.trans {B : Nat} {H H' H2 : Heap} (h : Kp B H H') (h2 : Kp B H' H2) : Kp B H H2 := ⟨Nat.le_trans h.1 h2.1,fun b hb => (h2.2 b hb).trans (h.2 b hb)⟩
theorem Kp.low {B B' : Nat} {H H' : Heap} (h : Kp B H H') (hb : B' ≤ B) : Kp B' H H' := ⟨h.1,fun b q => h.2 b (by omega)⟩
theorem Kp.get {B : Nat} {H H' : Heap} (h : Kp B H H') {b : Nat} {x : Option Blk} (hb : b < B) (hx : H[b]? = x) : H'[b]? = x := (h.2 b hb).trans hx
theorem Lst.nil (B : Nat) (H : Heap) : Lst B H (.sl true 0 []) [] := .inl ⟨rfl,rfl⟩
theorem Lst.low {B B' : Nat} {H : Heap} {v : AV} {cs : List AV} (h : Lst B H v cs) (hb : B' ≤ B) : Lst B' H v cs := by
 rcases h with h | ⟨id,a,b,c,e⟩
 ·exact .inl h
 ·exact .inr ⟨id,a,b,by omega,e⟩
theorem Lst.keep {B C : Nat} {H H' : Heap} {v : AV} {cs : List AV} (h : Lst B H v cs) (hk : Kp C H H') (hC : H.length ≤ C) : Lst B H' v cs := by
 rcases h with h | ⟨id,a,b,c,e⟩
 ·exact .inl h
 ·have := (List.getElem?_eq_some_iff.1 b).1
  exact .inr ⟨id,a,(hk.2 id (by omega)).trans b,c,e⟩
def At (v : AV) (b : Nat) : Prop := ∃ z o n es,v = .own z b o n es
theorem Lst.inb {B : Nat} {H : Heap} {v : AV} {cs : List AV} (h : Lst B H v cs) {b : Nat} (hb : At v b) : b < H.length ∧ B ≤ b := by
 obtain ⟨z,o,n,es,e⟩ := hb
 rcases h with ⟨_,rfl⟩ | ⟨id,rfl,hi,hb,_⟩
 ·cases e
 ·cases e; exact ⟨(List.getElem?_eq_some_iff.1 hi).1,hb⟩
theorem Lst.other {B : Nat} {H H' : Heap} {v : AV} {cs : List AV} (h : Lst B H v cs) (hk : ∀ b,At v b → H'[b]? = H[b]?) : Lst B H' v cs := by
 rcases h with h | ⟨id,e,hi,hb,h0⟩
 ·exact .inl h
 ·exact .inr ⟨id,e,(hk id ⟨_,_,_,_,e⟩).trans hi,hb,h0⟩
theorem Lst.push2 {B : Nat} {H : Heap} {v : AV} {cs : List AV} (h : Lst B H v cs) (c : AV) {bytes : Nat} (hr : (cs.length + 1) * bytes ≤ 140737488355328) (hr2 : cs.length + 1 ≤ 140737488355328) (hB : B ≤ H.length) :
  ∃ v' H',xWS false 1 bytes H v (some (1,[c])) = some (v',H') ∧ Lst B H' v' (cs ++ [c]) ∧ Kp B H H' ∧ (∀ b,b < H.length → ¬ At v b → H'[b]? = H[b]?) ∧ (∀ b,At v' b → b = H.length) ∧ ∃ id n,v' = .own false id 0 n 1 := by
 rcases h with ⟨rfl,rfl⟩ | ⟨id,rfl,hi,hb,_⟩
 ·refine ⟨.own false H.length 0 1 1,H ++ [.cells false false [c]],?_,.inr ⟨H.length,rfl,by simp,hB,by simp⟩,⟨by simp,fun b hb => List.getElem?_append_left (by omega)⟩,fun b hb _ => List.getElem?_append_left hb,fun b hb => ?_,_,_,rfl⟩
  ·rw [xMK (by simpa using hr) (by omega)]
   rfl
  ·obtain ⟨z,o,n,es,e⟩ := hb; cases e; rfl
 ·refine ⟨.own false H.length 0 (cs.length + 1) 1,H.set id .dead ++ [.cells false false (cs ++ [c])],?_,.inr ⟨H.length,by simp,?_,by omega,by simp⟩,⟨by simp,fun b hb' => ?_⟩,fun b hb hn => ?_,fun b hb => ?_,_,_,rfl⟩
  ·rw [xML,hi]
   show (if _ then _ else _) = _
   rw [if_pos ⟨by omega,hr,hr2⟩]
   simp
  ·rw [List.getElem?_append_right (by simp)]; simp
  ·have := (List.getElem?_eq_some_iff.1 hi).1
   rw [List.getElem?_append_left (by simp; omega),List.getElem?_set_ne (by omega)]
  ·rw [List.getElem?_append_left (by simpa using hb),List.getElem?_set_ne (by rintro rfl; exact hn ⟨_,_,_,_,rfl⟩)]
  ·obtain ⟨z,o,n,es,e⟩ := hb; cases e; rfl
theorem Lst.len {B : Nat} {H : Heap} {v : AV} {cs : List AV} (h : Lst B H v cs) : yF5 v = some (.int .i64 (cs.length : Nat)) := by
 rcases h with ⟨rfl,rfl⟩ | ⟨id,rfl,_⟩ <;> rfl
theorem Lst.cell {B : Nat} {H : Heap} {v : AV} {cs : List AV} (h : Lst B H v cs) : v.isCell = true := by
 rcases h with ⟨rfl,rfl⟩ | ⟨id,rfl,_⟩ <;> rfl
theorem xTC {α β : Type} (f : α → β) {a b : List α} (h : a.length = b.length) (d : α) {i : Nat} (hi : i < a.length) : ((a.drop i).map f = (b.drop i).map f) ↔ (f (a.getD i d) = f (b.getD i d) ∧ (a.drop (i + 1)).map f = (b.drop (i + 1)).map f) := by
 rw [xAD (a := d) hi,xAD (a := d) (show i < b.length by omega)]
 simp
theorem yG4 {z1 z2 : Bool} {a b : List Rw} {H : Heap} (hl : a.length = b.length) (hm : a.length < 9223372036854775807) (hr : ∀ r ∈ a,r.l.length < 9223372036854775807) : ∀ e i,i + e = a.length →
  ∃ j : Nat,L.loop xOq xZS ⟨xKz (.sl z1 a.length (a.map rwV)) (.sl z2 b.length (b.map rwV)) (.bool false) (.int .i64 (i : Nat)),H⟩ =
   some (if (a.drop i).map Rw.l = (b.drop i).map Rw.l then (.exit 0,⟨xKz (.sl z1 a.length (a.map rwV)) (.sl z2 b.length (b.map rwV)) (.bool false) (.int .i64 (a.length : Nat)),H⟩)
    else (.ret,⟨xKz (.sl z1 a.length (a.map rwV)) (.sl z2 b.length (b.map rwV)) (.bool false) (.int .i64 (j : Nat)),H⟩)) := by
 intro e
 induction e with
 | zero =>
  intro i h
  obtain rfl : i = a.length := by omega
  refine ⟨0,?_⟩
  rw [if_pos (by rw [List.drop_length,hl,List.drop_length]),xVY]
  simp (maxSteps := 30000000) (disch := first | assumption | omega | (simp only [WL,AV.isCell] <;> omega) | rfl | decide) only [↓reduceIte,WB,xCk,xAc,xBL,xAF,xBl,AV.cells,AV.isCell,xAl,xAx,xAO,xBx,xBy,xBz,xBA,xBB,xBC,xCC,xBD,xBE,xA3,xBF,xA4,xA5,xBG,xA6,xA7,xAL,Nat.reduceDiv,Nat.reduceMod,WP,xBO,xAM,xD2,xD1,xDd,xAX,xBq,xA9,W2,xAG,xAH,xA8,Nat.reduceAdd,Nat.reduceSub,Nat.reduceLeDiff,Nat.reduceMul,Int.reduceAdd,Int.reduceSub,Int.reduceMul,Int.reduceLT,Int.reduceLE,Int.reduceEq,Int.reduceToNat,Int.reduceNeg,Nat.reduceEqDiff,Nat.reduceBEq,Nat.reduceLT,xBr,xBk,List.length_map,xKy,xKA]
 | succ e ih =>
  intro i h
  have hlt : (i : Int) < (a.length : Nat) := by omega
  obtain ⟨j,ih'⟩ := ih (i + 1) (by omega)
  rw [← hl] at ih' ⊢
  have hd := xTC Rw.l hl r0 (show i < a.length by omega)
  have hq := yIc (z1 := (a.getD i r0).z) (z2 := (b.getD i r0).z) (a := (a.getD i r0).l) (b := (b.getD i r0).l) (hr _ (xAh (by omega)))
  have v1 : rwV (a.getD i r0) = .sl (a.getD i r0).z (a.getD i r0).l.length (xB3 (a.getD i r0).l) := rfl
  have v2 : rwV (b.getD i r0) = .sl (b.getD i r0).z (b.getD i r0).l.length (xB3 (b.getD i r0).l) := rfl
  by_cases c : (a.getD i r0).l = (b.getD i r0).l
  ·rw [decide_eq_true c] at hq
   refine ⟨j,?_⟩
   have hd' : ((a.drop i).map Rw.l = (b.drop i).map Rw.l) ↔ ((a.drop (i + 1)).map Rw.l = (b.drop (i + 1)).map Rw.l) := hd.trans ⟨fun h => h.2,fun h => ⟨c,h⟩⟩
   rw [xVY]
   by_cases e : (a.drop (i + 1)).map Rw.l = (b.drop (i + 1)).map Rw.l
   ·rw [if_pos e] at ih'
    rw [if_pos (hd'.2 e)]
    simp (maxSteps := 30000000) (disch := first | assumption | omega | (simp only [WL,AV.isCell] <;> omega) | rfl | decide) only [↓reduceIte,WB,xCk,xAc,xBL,xAF,xBl,AV.cells,AV.isCell,xAl,xAx,xAO,xBx,xBy,xBz,xBA,xBB,xBC,xCC,xBD,xBE,xA3,xBF,xA4,xA5,xBG,xA6,xA7,xAL,Nat.reduceDiv,Nat.reduceMod,WP,xBO,xAM,xD2,xD1,xDd,xAX,xBq,xA9,W2,xAG,xAH,xA8,Nat.reduceAdd,Nat.reduceSub,Nat.reduceLeDiff,Nat.reduceMul,Int.reduceAdd,Int.reduceSub,Int.reduceMul,Int.reduceLT,Int.reduceLE,Int.reduceEq,Int.reduceToNat,Int.reduceNeg,Nat.reduceEqDiff,Nat.reduceBEq,Nat.reduceLT,xBr,xBk,List.length_map,xKy,xKA,hlt,v1,v2,hq,ih']
   ·rw [if_neg e] at ih'
    rw [if_neg (fun h => e (hd'.1 h))]
    simp (maxSteps := 30000000) (disch := first | assumption | omega | (simp only [WL,AV.isCell] <;> omega) | rfl | decide) only [↓reduceIte,WB,xCk,xAc,xBL,xAF,xBl,AV.cells,AV.isCell,xAl,xAx,xAO,xBx,xBy,xBz,xBA,xBB,xBC,xCC,xBD,xBE,xA3,xBF,xA4,xA5,xBG,xA6,xA7,xAL,Nat.reduceDiv,Nat.reduceMod,WP,xBO,xAM,xD2,xD1,xDd,xAX,xBq,xA9,W2,xAG,xAH,xA8,Nat.reduceAdd,Nat.reduceSub,Nat.reduceLeDiff,Nat.reduceMul,Int.reduceAdd,Int.reduceSub,Int.reduceMul,Int.reduceLT,Int.reduceLE,Int.reduceEq,Int.reduceToNat,Int.reduceNeg,Nat.reduceEqDiff,Nat.reduceBEq,Nat.reduceLT,xBr,xBk,List.length_map,xKy,xKA,hlt,v1,v2,hq,ih']
  ·rw [decide_eq_false c] at hq
   refine ⟨i,?_⟩
   rw [if_neg (fun h => c (hd.1 h).1),xVY]
   simp (maxSteps := 30000000) (disch := first | assumption | omega | (simp only [WL,AV.isCell] <;> omega) | rfl | decide) only [↓reduceIte,WB,xCk,xAc,xBL,xAF,xBl,AV.cells,AV.isCell,xAl,xAx,xAO,xBx,xBy,xBz,xBA,xBB,xBC,xCC,xBD,xBE,xA3,xBF,xA4,xA5,xBG,xA6,xA7,xAL,Nat.reduceDiv,Nat.reduceMod,WP,xBO,xAM,xD2,xD1,xDd,xAX,xBq,xA9,W2,xAG,xAH,xA8,Nat.reduceAdd,Nat.reduceSub,Nat.reduceLeDiff,Nat.reduceMul,Int.reduceAdd,Int.reduceSub,Int.reduceMul,Int.reduceLT,Int.reduceLE,Int.reduceEq,Int.reduceToNat,Int.reduceNeg,Nat.reduceEqDiff,Nat.reduceBEq,Nat.reduceLT,xBr,xBk,List.length_map,xKy,xKA,hlt,v1,v2,hq]
theorem yId {z1 z2 : Bool} {a b : List Rw} (hm : a.length < 9223372036854775807) (hr : ∀ r ∈ a,r.l.length < 9223372036854775807) : L.pcall 66 [.sl z1 a.length (a.map rwV),.sl z2 b.length (b.map rwV)] = some (.bool (decide (a.map Rw.l = b.map Rw.l))) := by
 by_cases hl : a.length = b.length
 ·obtain ⟨j,h⟩ := yG4 (z1 := z1) (z2 := z2) (H := []) hl hm hr a.length 0 (by omega)
  simp only [Int.natCast_zero,List.drop_zero] at h
  rw [yHr,a66,xAf]
  by_cases c : a.map Rw.l = b.map Rw.l
  ·rw [if_pos c] at h
   rw [decide_eq_true c]
   rw [← hl] at h ⊢
   simp (maxSteps := 30000000) (disch := first | assumption | omega | (simp only [WL,AV.isCell] <;> omega) | rfl | decide) only [↓reduceIte,WB,xCk,xAc,xBL,xAF,xBl,AV.cells,AV.isCell,xAl,xAx,xAO,xBx,xBy,xBz,xBA,xBB,xBC,xCC,xBD,xBE,xA3,xBF,xA4,xA5,xBG,xA6,xA7,xAL,Nat.reduceDiv,Nat.reduceMod,WP,xBO,xAM,xD2,xD1,xDd,xAX,xBq,xA9,W2,xAG,xAH,xA8,Nat.reduceAdd,Nat.reduceSub,Nat.reduceLeDiff,Nat.reduceMul,Int.reduceAdd,Int.reduceSub,Int.reduceMul,Int.reduceLT,Int.reduceLE,Int.reduceEq,Int.reduceToNat,Int.reduceNeg,Nat.reduceEqDiff,Nat.reduceBEq,Nat.reduceLT,xBr,xBk,List.length_map,xKA,h]
  ·rw [if_neg c] at h
   rw [decide_eq_false c]
   rw [← hl] at h ⊢
   simp (maxSteps := 30000000) (disch := first | assumption | omega | (simp only [WL,AV.isCell] <;> omega) | rfl | decide) only [↓reduceIte,WB,xCk,xAc,xBL,xAF,xBl,AV.cells,AV.isCell,xAl,xAx,xAO,xBx,xBy,xBz,xBA,xBB,xBC,xCC,xBD,xBE,xA3,xBF,xA4,xA5,xBG,xA6,xA7,xAL,Nat.reduceDiv,Nat.reduceMod,WP,xBO,xAM,xD2,xD1,xDd,xAX,xBq,xA9,W2,xAG,xAH,xA8,Nat.reduceAdd,Nat.reduceSub,Nat.reduceLeDiff,Nat.reduceMul,Int.reduceAdd,Int.reduceSub,Int.reduceMul,Int.reduceLT,Int.reduceLE,Int.reduceEq,Int.reduceToNat,Int.reduceNeg,Nat.reduceEqDiff,Nat.reduceBEq,Nat.reduceLT,xBr,xBk,List.length_map,xKA,h]
 ·have hl' : (((a.length : Nat) : Int) = ((b.length : Nat) : Int)) = False := eq_false (by omega)
  rw [decide_eq_false (fun e => hl (by have := congrArg List.length e; simpa using this)),yHr,a66,xAf]
  simp (maxSteps := 30000000) (disch := first | assumption | omega | (simp only [WL,AV.isCell] <;> omega) | rfl | decide) only [↓reduceIte,WB,xCk,xAc,xBL,xAF,xBl,AV.cells,AV.isCell,xAl,xAx,xAO,xBx,xBy,xBz,xBA,xBB,xBC,xCC,xBD,xBE,xA3,xBF,xA4,xA5,xBG,xA6,xA7,xAL,Nat.reduceDiv,Nat.reduceMod,WP,xBO,xAM,xD2,xD1,xDd,xAX,xBq,xA9,W2,xAG,xAH,xA8,Nat.reduceAdd,Nat.reduceSub,Nat.reduceLeDiff,Nat.reduceMul,Int.reduceAdd,Int.reduceSub,Int.reduceMul,Int.reduceLT,Int.reduceLE,Int.reduceEq,Int.reduceToNat,Int.reduceNeg,Nat.reduceEqDiff,Nat.reduceBEq,Nat.reduceLT,xBr,xBk,List.length_map,hl']
theorem yG5 {z1 z2 : Bool} {a b : List Wd} {H : Heap} (hl : a.length = b.length) (hm : a.length < 9223372036854775807) (hr : ∀ r ∈ a,r.l.length < 9223372036854775807) : ∀ e i,i + e = a.length →
  ∃ j : Nat,L.loop xOr xZT ⟨xKC (.sl z1 a.length (a.map wdV)) (.sl z2 b.length (b.map wdV)) (.bool false) (.int .i64 (i : Nat)),H⟩ =
   some (if (a.drop i).map Wd.l = (b.drop i).map Wd.l then (.exit 0,⟨xKC (.sl z1 a.length (a.map wdV)) (.sl z2 b.length (b.map wdV)) (.bool false) (.int .i64 (a.length : Nat)),H⟩)
    else (.ret,⟨xKC (.sl z1 a.length (a.map wdV)) (.sl z2 b.length (b.map wdV)) (.bool false) (.int .i64 (j : Nat)),H⟩)) := by
 intro e
 induction e with
 | zero =>
  intro i h
  obtain rfl : i = a.length := by omega
  refine ⟨0,?_⟩
  rw [if_pos (by rw [List.drop_length,hl,List.drop_length]),xVZ]
  simp (maxSteps := 30000000) (disch := first | assumption | omega | (simp only [WL,AV.isCell] <;> omega) | rfl | decide) only [↓reduceIte,WB,xCk,xAc,xBL,xAF,xBl,AV.cells,AV.isCell,xAl,xAx,xAO,xBx,xBy,xBz,xBA,xBB,xBC,xCC,xBD,xBE,xA3,xBF,xA4,xA5,xBG,xA6,xA7,xAL,Nat.reduceDiv,Nat.reduceMod,WP,xBO,xAM,xD2,xD1,xDd,xAX,xBq,xA9,W2,xAG,xAH,xA8,Nat.reduceAdd,Nat.reduceSub,Nat.reduceLeDiff,Nat.reduceMul,Int.reduceAdd,Int.reduceSub,Int.reduceMul,Int.reduceLT,Int.reduceLE,Int.reduceEq,Int.reduceToNat,Int.reduceNeg,Nat.reduceEqDiff,Nat.reduceBEq,Nat.reduceLT,xBr,xBk,List.length_map,xKB,xKD]
 | succ e ih =>
  intro i h
  have hlt : (i : Int) < (a.length : Nat) := by omega
  obtain ⟨j,ih'⟩ := ih (i + 1) (by omega)
  rw [← hl] at ih' ⊢
  have hd := xTC Wd.l hl w0 (show i < a.length by omega)
  have hq := yGf (z1 := (a.getD i w0).z) (z2 := (b.getD i w0).z) (a := (a.getD i w0).l) (b := (b.getD i w0).l) (hr _ (xAh (by omega)))
  have v1 : wdV (a.getD i w0) = .sl (a.getD i w0).z (a.getD i w0).l.length (bs (a.getD i w0).l) := rfl
  have v2 : wdV (b.getD i w0) = .sl (b.getD i w0).z (b.getD i w0).l.length (bs (b.getD i w0).l) := rfl
  by_cases c : (a.getD i w0).l = (b.getD i w0).l
  ·rw [decide_eq_true c] at hq
   refine ⟨j,?_⟩
   have hd' : ((a.drop i).map Wd.l = (b.drop i).map Wd.l) ↔ ((a.drop (i + 1)).map Wd.l = (b.drop (i + 1)).map Wd.l) := hd.trans ⟨fun h => h.2,fun h => ⟨c,h⟩⟩
   rw [xVZ]
   by_cases e : (a.drop (i + 1)).map Wd.l = (b.drop (i + 1)).map Wd.l
   ·rw [if_pos e] at ih'
    rw [if_pos (hd'.2 e)]
    simp (maxSteps := 30000000) (disch := first | assumption | omega | (simp only [WL,AV.isCell] <;> omega) | rfl | decide) only [↓reduceIte,WB,xCk,xAc,xBL,xAF,xBl,AV.cells,AV.isCell,xAl,xAx,xAO,xBx,xBy,xBz,xBA,xBB,xBC,xCC,xBD,xBE,xA3,xBF,xA4,xA5,xBG,xA6,xA7,xAL,Nat.reduceDiv,Nat.reduceMod,WP,xBO,xAM,xD2,xD1,xDd,xAX,xBq,xA9,W2,xAG,xAH,xA8,Nat.reduceAdd,Nat.reduceSub,Nat.reduceLeDiff,Nat.reduceMul,Int.reduceAdd,Int.reduceSub,Int.reduceMul,Int.reduceLT,Int.reduceLE,Int.reduceEq,Int.reduceToNat,Int.reduceNeg,Nat.reduceEqDiff,Nat.reduceBEq,Nat.reduceLT,xBr,xBk,List.length_map,xKB,xKD,hlt,v1,v2,hq,ih']
   ·rw [if_neg e] at ih'
    rw [if_neg (fun h => e (hd'.1 h))]
    simp (maxSteps := 30000000) (disch := first | assumption | omega | (simp only [WL,AV.isCell] <;> omega) | rfl | decide) only [↓reduceIte,WB,xCk,xAc,xBL,xAF,xBl,AV.cells,AV.isCell,xAl,xAx,xAO,xBx,xBy,xBz,xBA,xBB,xBC,xCC,xBD,xBE,xA3,xBF,xA4,xA5,xBG,xA6,xA7,xAL,Nat.reduceDiv,Nat.reduceMod,WP,xBO,xAM,xD2,xD1,xDd,xAX,xBq,xA9,W2,xAG,xAH,xA8,Nat.reduceAdd,Nat.reduceSub,Nat.reduceLeDiff,Nat.reduceMul,Int.reduceAdd,Int.reduceSub,Int.reduceMul,Int.reduceLT,Int.reduceLE,Int.reduceEq,Int.reduceToNat,Int.reduceNeg,Nat.reduceEqDiff,Nat.reduceBEq,Nat.reduceLT,xBr,xBk,List.length_map,xKB,xKD,hlt,v1,v2,hq,ih']
  ·rw [decide_eq_false c] at hq
   refine ⟨i,?_⟩
   rw [if_neg (fun h => c (hd.1 h).1),xVZ]
   simp (maxSteps := 30000000) (disch := first | assumption | omega | (simp only [WL,AV.isCell] <;> omega) | rfl | decide) only [↓reduceIte,WB,xCk,xAc,xBL,xAF,xBl,AV.cells,AV.isCell,xAl,xAx,xAO,xBx,xBy,xBz,xBA,xBB,xBC,xCC,xBD,xBE,xA3,xBF,xA4,xA5,xBG,xA6,xA7,xAL,Nat.reduceDiv,Nat.reduceMod,WP,xBO,xAM,xD2,xD1,xDd,xAX,xBq,xA9,W2,xAG,xAH,xA8,Nat.reduceAdd,Nat.reduceSub,Nat.reduceLeDiff,Nat.reduceMul,Int.reduceAdd,Int.reduceSub,Int.reduceMul,Int.reduceLT,Int.reduceLE,Int.reduceEq,Int.reduceToNat,Int.reduceNeg,Nat.reduceEqDiff,Nat.reduceBEq,Nat.reduceLT,xBr,xBk,List.length_map,xKB,xKD,hlt,v1,v2,hq]
theorem yIe {z1 z2 : Bool} {a b : List Wd} (hm : a.length < 9223372036854775807) (hr : ∀ r ∈ a,r.l.length < 9223372036854775807) : L.pcall 67 [.sl z1 a.length (a.map wdV),.sl z2 b.length (b.map wdV)] = some (.bool (decide (a.map Wd.l = b.map Wd.l))) := by
 by_cases hl : a.length = b.length
 ·obtain ⟨j,h⟩ := yG5 (z1 := z1) (z2 := z2) (H := []) hl hm hr a.length 0 (by omega)
  simp only [Int.natCast_zero,List.drop_zero] at h
  rw [yHs,a67,xAf]
  by_cases c : a.map Wd.l = b.map Wd.l
  ·rw [if_pos c] at h
   rw [decide_eq_true c]
   rw [← hl] at h ⊢
   simp (maxSteps := 30000000) (disch := first | assumption | omega | (simp only [WL,AV.isCell] <;> omega) | rfl | decide) only [↓reduceIte,WB,xCk,xAc,xBL,xAF,xBl,AV.cells,AV.isCell,xAl,xAx,xAO,xBx,xBy,xBz,xBA,xBB,xBC,xCC,xBD,xBE,xA3,xBF,xA4,xA5,xBG,xA6,xA7,xAL,Nat.reduceDiv,Nat.reduceMod,WP,xBO,xAM,xD2,xD1,xDd,xAX,xBq,xA9,W2,xAG,xAH,xA8,Nat.reduceAdd,Nat.reduceSub,Nat.reduceLeDiff,Nat.reduceMul,Int.reduceAdd,Int.reduceSub,Int.reduceMul,Int.reduceLT,Int.reduceLE,Int.reduceEq,Int.reduceToNat,Int.reduceNeg,Nat.reduceEqDiff,Nat.reduceBEq,Nat.reduceLT,xBr,xBk,List.length_map,xKD,h]
  ·rw [if_neg c] at h
   rw [decide_eq_false c]
   rw [← hl] at h ⊢
   simp (maxSteps := 30000000) (disch := first | assumption | omega | (simp only [WL,AV.isCell] <;> omega) | rfl | decide) only [↓reduceIte,WB,xCk,xAc,xBL,xAF,xBl,AV.cells,AV.isCell,xAl,xAx,xAO,xBx,xBy,xBz,xBA,xBB,xBC,xCC,xBD,xBE,xA3,xBF,xA4,xA5,xBG,xA6,xA7,xAL,Nat.reduceDiv,Nat.reduceMod,WP,xBO,xAM,xD2,xD1,xDd,xAX,xBq,xA9,W2,xAG,xAH,xA8,Nat.reduceAdd,Nat.reduceSub,Nat.reduceLeDiff,Nat.reduceMul,Int.reduceAdd,Int.reduceSub,Int.reduceMul,Int.reduceLT,Int.reduceLE,Int.reduceEq,Int.reduceToNat,Int.reduceNeg,Nat.reduceEqDiff,Nat.reduceBEq,Nat.reduceLT,xBr,xBk,List.length_map,xKD,h]
 ·have hl' : (((a.length : Nat) : Int) = ((b.length : Nat) : Int)) = False := eq_false (by omega)
  rw [decide_eq_false (fun e => hl (by have := congrArg List.length e; simpa using this)),yHs,a67,xAf]
  simp (maxSteps := 30000000) (disch := first | assumption | omega | (simp only [WL,AV.isCell] <;> omega) | rfl | decide) only [↓reduceIte,WB,xCk,xAc,xBL,xAF,xBl,AV.cells,AV.isCell,xAl,xAx,xAO,xBx,xBy,xBz,xBA,xBB,xBC,xCC,xBD,xBE,xA3,xBF,xA4,xA5,xBG,xA6,xA7,xAL,Nat.reduceDiv,Nat.reduceMod,WP,xBO,xAM,xD2,xD1,xDd,xAX,xBq,xA9,W2,xAG,xAH,xA8,Nat.reduceAdd,Nat.reduceSub,Nat.reduceLeDiff,Nat.reduceMul,Int.reduceAdd,Int.reduceSub,Int.reduceMul,Int.reduceLT,Int.reduceLE,Int.reduceEq,Int.reduceToNat,Int.reduceNeg,Nat.reduceEqDiff,Nat.reduceBEq,Nat.reduceLT,xBr,xBk,List.length_map,hl']
def xP8 (r : Rw) : Rw := ⟨r.l.length == 0,r.l⟩
theorem yFx {z : Bool} {l : List Int} (hl : l.length ≤ 1000000) : L.pcall 84 [.sl z l.length (xB3 l)] = some (.sl (l.length == 0) l.length (xB3 l)) := by
 have hb : ((l.length == 0) = true) ∨ ((l.length == 0) = false) := by cases (l.length == 0) <;> simp
 rw [yH1,a84,xAf]
 simp (maxSteps := 30000000) (disch := first | assumption | omega | (simp only [WL,AV.isCell] <;> omega) | rfl | decide) only [↓reduceIte,WB,xCk,xAc,xBL,xAF,xBl,AV.cells,AV.isCell,xAl,xAx,xAO,xBx,xBy,xBz,xBA,xBB,xBC,xCC,xBD,xBE,xA3,xBF,xA4,xA5,xBG,xA6,xA7,xAL,Nat.reduceDiv,Nat.reduceMod,WP,xBO,xAM,xD2,xD1,xDd,xAX,xBq,xA9,W2,xAG,xAH,xA8,Nat.reduceAdd,Nat.reduceSub,Nat.reduceLeDiff,Nat.reduceMul,Int.reduceAdd,Int.reduceSub,Int.reduceMul,Int.reduceLT,Int.reduceLE,Int.reduceEq,Int.reduceToNat,Int.reduceNeg,Nat.reduceEqDiff,Nat.reduceBEq,Nat.reduceLT,xBr,xBk,List.length_map]
theorem yDF (d : Nat) (H : Heap) (l : List Rw) : (l.map rwV).mapM (frz d H) = some (l.map rwV) := by
 induction l with
 | nil => rfl
 | cons r l ih =>
  have : rwV r = .sl r.z r.l.length (xB3 r.l) := rfl
  rw [List.map_cons,List.mapM_cons,this,xLl]
  simp [ih]
theorem yDG {z : Bool} {l : List Rw} (hl : l.length ≤ 1000000) (hr : ∀ r ∈ l,r.l.length ≤ 1000000) : ∀ e i v G,i + e = l.length → Lst 0 G v (((l.take i).map xP8).map rwV) →
  ∃ v' G',L.loop xOj xZO ⟨xOk (.sl z l.length (l.map rwV)) v (.int .i64 (i : Nat)),G⟩ = some (.exit 0,⟨xOk (.sl z l.length (l.map rwV)) v' (.int .i64 (l.length : Nat)),G'⟩) ∧ Lst 0 G' v' ((l.map xP8).map rwV) := by
 intro e
 induction e with
 | zero =>
  intro i v G h hI
  obtain rfl : i = l.length := by omega
  rw [List.take_length] at hI
  refine ⟨v,G,?_,hI⟩
  rw [yBb]
  simp (maxSteps := 30000000) (disch := first | assumption | omega | (simp only [WL,AV.isCell] <;> omega) | rfl | decide) only [↓reduceIte,WB,xCk,xAc,xBL,xAF,xBl,AV.cells,AV.isCell,xAl,xAx,xAO,xBx,xBy,xBz,xBA,xBB,xBC,xCC,xBD,xBE,xA3,xBF,xA4,xA5,xBG,xA6,xA7,xAL,Nat.reduceDiv,Nat.reduceMod,WP,xBO,xAM,xD2,xD1,xDd,xAX,xBq,xA9,W2,xAG,xAH,xA8,Nat.reduceAdd,Nat.reduceSub,Nat.reduceLeDiff,Nat.reduceMul,Int.reduceAdd,Int.reduceSub,Int.reduceMul,Int.reduceLT,Int.reduceLE,Int.reduceEq,Int.reduceToNat,Int.reduceNeg,Nat.reduceEqDiff,Nat.reduceBEq,Nat.reduceLT,xBr,xBk,List.length_map,xRL,xVV]
 | succ e ih =>
  intro i v G h hI
  have hlt : (i : Int) < (l.length : Nat) := by omega
  have hlt' : i < l.length := by omega
  have hlen : (((l.take i).map xP8).map rwV).length = i := by simp; omega
  obtain ⟨v1,G1,a1,a2,-⟩ := hI.push2 (rwV (xP8 (l.getD i r0))) (bytes := 24) (by rw [hlen]; omega) (by rw [hlen]; omega) (Nat.zero_le _)
  have hc := yFx (z := (l.getD i r0).z) (l := (l.getD i r0).l) (hr _ (xAh hlt'))
  have v1' : rwV (l.getD i r0) = .sl (l.getD i r0).z (l.getD i r0).l.length (xB3 (l.getD i r0).l) := rfl
  have v2' : rwV (xP8 (l.getD i r0)) = .sl ((l.getD i r0).l.length == 0) (l.getD i r0).l.length (xB3 (l.getD i r0).l) := rfl
  obtain ⟨v',G',k1,k2⟩ := ih (i + 1) v1 G1 (by omega) (by
   have e : (((l.take (i + 1)).map xP8).map rwV) = ((l.take i).map xP8).map rwV ++ [rwV (xP8 (l.getD i r0))] := by
    have ht : l.take (i + 1) = l.take i ++ [l.getD i r0] := by
     rw [List.take_add_one,List.getElem?_eq_getElem hlt']
     simp [List.getD,List.getElem?_eq_getElem hlt']
    rw [ht,List.map_append,List.map_append]; rfl
   rw [e]; exact a2)
  refine ⟨v',G',?_,k2⟩
  rw [v2'] at a1
  rw [yBb]
  simp (maxSteps := 30000000) (disch := first | assumption | omega | (simp only [WL,AV.isCell] <;> omega) | rfl | decide) only [↓reduceIte,WB,xCk,xAc,xBL,xAF,xBl,AV.cells,AV.isCell,xAl,xAx,xAO,xBx,xBy,xBz,xBA,xBB,xBC,xCC,xBD,xBE,xA3,xBF,xA4,xA5,xBG,xA6,xA7,xAL,Nat.reduceDiv,Nat.reduceMod,WP,xBO,xAM,xD2,xD1,xDd,xAX,xBq,xA9,W2,xAG,xAH,xA8,Nat.reduceAdd,Nat.reduceSub,Nat.reduceLeDiff,Nat.reduceMul,Int.reduceAdd,Int.reduceSub,Int.reduceMul,Int.reduceLT,Int.reduceLE,Int.reduceEq,Int.reduceToNat,Int.reduceNeg,Nat.reduceEqDiff,Nat.reduceBEq,Nat.reduceLT,xBr,xBk,List.length_map,xRL,xVV,hlt,hlt',v1',hc,a1,k1]
theorem yFy {z : Bool} {l : List Rw} (hl : l.length ≤ 1000000) (hr : ∀ r ∈ l,r.l.length ≤ 1000000) : L.pcall 50 [.sl z l.length (l.map rwV)] = some (.sl (l.length == 0) l.length ((l.map xP8).map rwV)) := by
 obtain ⟨v',G',k1,k2⟩ := yDG (z := z) hl hr l.length 0 (.sl true 0 []) [] (by omega) (.inl ⟨rfl,rfl⟩)
 simp only [Int.natCast_zero] at k1
 have hf : frz 6 G' v' = some (.sl (l.length == 0) l.length ((l.map xP8).map rwV)) := by
  rcases k2 with ⟨h0,rfl⟩ | ⟨a,rfl,ha,_,h0⟩
  ·have e := congrArg List.length h0
   simp only [List.length_map,List.length_nil] at e
   have e0 : l = [] := List.length_eq_zero_iff.1 e
   subst e0; rfl
  ·have hz : (l.length == 0) = false := by
    cases l with
    | nil => simp at h0
    | cons => rfl
   have hlm : ((l.map xP8).map rwV).length = l.length := by simp
   simp only [frz,ha,Nat.mul_one,List.drop_zero]
   rw [if_pos (by omega),List.take_length,yDF,hz,hlm]; rfl
 rw [yHP,a50,xAf]
 simp (maxSteps := 30000000) (disch := first | assumption | omega | (simp only [WL,AV.isCell] <;> omega) | rfl | decide) only [↓reduceIte,WB,xCk,xAc,xBL,xAF,xBl,AV.cells,AV.isCell,xAl,xAx,xAO,xBx,xBy,xBz,xBA,xBB,xBC,xCC,xBD,xBE,xA3,xBF,xA4,xA5,xBG,xA6,xA7,xAL,Nat.reduceDiv,Nat.reduceMod,WP,xBO,xAM,xD2,xD1,xDd,xAX,xBq,xA9,W2,xAG,xAH,xA8,Nat.reduceAdd,Nat.reduceSub,Nat.reduceLeDiff,Nat.reduceMul,Int.reduceAdd,Int.reduceSub,Int.reduceMul,Int.reduceLT,Int.reduceLE,Int.reduceEq,Int.reduceToNat,Int.reduceNeg,Nat.reduceEqDiff,Nat.reduceBEq,Nat.reduceLT,xBr,xBk,List.length_map,xVV,k1,hf]
def xP9 (r : Wd) : Wd := ⟨r.l.length == 0,r.l⟩
theorem yFz {z : Bool} {l : List Nat} (hl : l.length ≤ 1000000) : L.pcall 15 [.sl z l.length (bs l)] = some (.sl (l.length == 0) l.length (bs l)) := by
 have hb : ((l.length == 0) = true) ∨ ((l.length == 0) = false) := by cases (l.length == 0) <;> simp
 rw [yHM,a15,xAf]
 simp (maxSteps := 30000000) (disch := first | assumption | omega | (simp only [WL,AV.isCell] <;> omega) | rfl | decide) only [↓reduceIte,WB,xCk,xAc,xBL,xAF,xBl,AV.cells,AV.isCell,xAl,xAx,xAO,xBx,xBy,xBz,xBA,xBB,xBC,xCC,xBD,xBE,xA3,xBF,xA4,xA5,xBG,xA6,xA7,xAL,Nat.reduceDiv,Nat.reduceMod,WP,xBO,xAM,xD2,xD1,xDd,xAX,xBq,xA9,W2,xAG,xAH,xA8,Nat.reduceAdd,Nat.reduceSub,Nat.reduceLeDiff,Nat.reduceMul,Int.reduceAdd,Int.reduceSub,Int.reduceMul,Int.reduceLT,Int.reduceLE,Int.reduceEq,Int.reduceToNat,Int.reduceNeg,Nat.reduceEqDiff,Nat.reduceBEq,Nat.reduceLT,xBr,xBk,List.length_map]
theorem yDH (d : Nat) (H : Heap) (l : List Wd) : (l.map wdV).mapM (frz d H) = some (l.map wdV) := by
 induction l with
 | nil => rfl
 | cons r l ih =>
  have : wdV r = .sl r.z r.l.length (bs r.l) := rfl
  rw [List.map_cons,List.mapM_cons,this,xLl]
  simp [ih]
theorem yDI {z : Bool} {l : List Wd} (hl : l.length ≤ 1000000) (hr : ∀ r ∈ l,r.l.length ≤ 1000000) : ∀ e i v G,i + e = l.length → Lst 0 G v (((l.take i).map xP9).map wdV) →
  ∃ v' G',L.loop xOl xZP ⟨xOm (.sl z l.length (l.map wdV)) v (.int .i64 (i : Nat)),G⟩ = some (.exit 0,⟨xOm (.sl z l.length (l.map wdV)) v' (.int .i64 (l.length : Nat)),G'⟩) ∧ Lst 0 G' v' ((l.map xP9).map wdV) := by
 intro e
 induction e with
 | zero =>
  intro i v G h hI
  obtain rfl : i = l.length := by omega
  rw [List.take_length] at hI
  refine ⟨v,G,?_,hI⟩
  rw [yBc]
  simp (maxSteps := 30000000) (disch := first | assumption | omega | (simp only [WL,AV.isCell] <;> omega) | rfl | decide) only [↓reduceIte,WB,xCk,xAc,xBL,xAF,xBl,AV.cells,AV.isCell,xAl,xAx,xAO,xBx,xBy,xBz,xBA,xBB,xBC,xCC,xBD,xBE,xA3,xBF,xA4,xA5,xBG,xA6,xA7,xAL,Nat.reduceDiv,Nat.reduceMod,WP,xBO,xAM,xD2,xD1,xDd,xAX,xBq,xA9,W2,xAG,xAH,xA8,Nat.reduceAdd,Nat.reduceSub,Nat.reduceLeDiff,Nat.reduceMul,Int.reduceAdd,Int.reduceSub,Int.reduceMul,Int.reduceLT,Int.reduceLE,Int.reduceEq,Int.reduceToNat,Int.reduceNeg,Nat.reduceEqDiff,Nat.reduceBEq,Nat.reduceLT,xBr,xBk,List.length_map,xRM,xVW]
 | succ e ih =>
  intro i v G h hI
  have hlt : (i : Int) < (l.length : Nat) := by omega
  have hlt' : i < l.length := by omega
  have hlen : (((l.take i).map xP9).map wdV).length = i := by simp; omega
  obtain ⟨v1,G1,a1,a2,-⟩ := hI.push2 (wdV (xP9 (l.getD i w0))) (bytes := 24) (by rw [hlen]; omega) (by rw [hlen]; omega) (Nat.zero_le _)
  have hc := yFz (z := (l.getD i w0).z) (l := (l.getD i w0).l) (hr _ (xAh hlt'))
  have v1' : wdV (l.getD i w0) = .sl (l.getD i w0).z (l.getD i w0).l.length (bs (l.getD i w0).l) := rfl
  have v2' : wdV (xP9 (l.getD i w0)) = .sl ((l.getD i w0).l.length == 0) (l.getD i w0).l.length (bs (l.getD i w0).l) := rfl
  obtain ⟨v',G',k1,k2⟩ := ih (i + 1) v1 G1 (by omega) (by
   have e : (((l.take (i + 1)).map xP9).map wdV) = ((l.take i).map xP9).map wdV ++ [wdV (xP9 (l.getD i w0))] := by
    have ht : l.take (i + 1) = l.take i ++ [l.getD i w0] := by
     rw [List.take_add_one,List.getElem?_eq_getElem hlt']
     simp [List.getD,List.getElem?_eq_getElem hlt']
    rw [ht,List.map_append,List.map_append]; rfl
   rw [e]; exact a2)
  refine ⟨v',G',?_,k2⟩
  rw [v2'] at a1
  rw [yBc]
  simp (maxSteps := 30000000) (disch := first | assumption | omega | (simp only [WL,AV.isCell] <;> omega) | rfl | decide) only [↓reduceIte,WB,xCk,xAc,xBL,xAF,xBl,AV.cells,AV.isCell,xAl,xAx,xAO,xBx,xBy,xBz,xBA,xBB,xBC,xCC,xBD,xBE,xA3,xBF,xA4,xA5,xBG,xA6,xA7,xAL,Nat.reduceDiv,Nat.reduceMod,WP,xBO,xAM,xD2,xD1,xDd,xAX,xBq,xA9,W2,xAG,xAH,xA8,Nat.reduceAdd,Nat.reduceSub,Nat.reduceLeDiff,Nat.reduceMul,Int.reduceAdd,Int.reduceSub,Int.reduceMul,Int.reduceLT,Int.reduceLE,Int.reduceEq,Int.reduceToNat,Int.reduceNeg,Nat.reduceEqDiff,Nat.reduceBEq,Nat.reduceLT,xBr,xBk,List.length_map,xRM,xVW,hlt,hlt',v1',hc,a1,k1]
theorem yFA {z : Bool} {l : List Wd} (hl : l.length ≤ 1000000) (hr : ∀ r ∈ l,r.l.length ≤ 1000000) : L.pcall 51 [.sl z l.length (l.map wdV)] = some (.sl (l.length == 0) l.length ((l.map xP9).map wdV)) := by
 obtain ⟨v',G',k1,k2⟩ := yDI (z := z) hl hr l.length 0 (.sl true 0 []) [] (by omega) (.inl ⟨rfl,rfl⟩)
 simp only [Int.natCast_zero] at k1
 have hf : frz 6 G' v' = some (.sl (l.length == 0) l.length ((l.map xP9).map wdV)) := by
  rcases k2 with ⟨h0,rfl⟩ | ⟨a,rfl,ha,_,h0⟩
  ·have e := congrArg List.length h0
   simp only [List.length_map,List.length_nil] at e
   have e0 : l = [] := List.length_eq_zero_iff.1 e
   subst e0; rfl
  ·have hz : (l.length == 0) = false := by
    cases l with
    | nil => simp at h0
    | cons => rfl
   have hlm : ((l.map xP9).map wdV).length = l.length := by simp
   simp only [frz,ha,Nat.mul_one,List.drop_zero]
   rw [if_pos (by omega),List.take_length,yDH,hz,hlm]; rfl
 rw [yHQ,a51,xAf]
 simp (maxSteps := 30000000) (disch := first | assumption | omega | (simp only [WL,AV.isCell] <;> omega) | rfl | decide) only [↓reduceIte,WB,xCk,xAc,xBL,xAF,xBl,AV.cells,AV.isCell,xAl,xAx,xAO,xBx,xBy,xBz,xBA,xBB,xBC,xCC,xBD,xBE,xA3,xBF,xA4,xA5,xBG,xA6,xA7,xAL,Nat.reduceDiv,Nat.reduceMod,WP,xBO,xAM,xD2,xD1,xDd,xAX,xBq,xA9,W2,xAG,xAH,xA8,Nat.reduceAdd,Nat.reduceSub,Nat.reduceLeDiff,Nat.reduceMul,Int.reduceAdd,Int.reduceSub,Int.reduceMul,Int.reduceLT,Int.reduceLE,Int.reduceEq,Int.reduceToNat,Int.reduceNeg,Nat.reduceEqDiff,Nat.reduceBEq,Nat.reduceLT,xBr,xBk,List.length_map,xVW,k1,hf]
def yFB (a b : Mf) : Prop := a.i = b.i ∧ a.o = b.o ∧ a.s = b.s ∧ a.next.map Rw.l = b.next.map Rw.l ∧ a.emit.map Wd.l = b.emit.map Wd.l
theorem xTD {a b : Mf} (h1 : a.next.length < 9223372036854775807) (h2 : a.emit.length < 9223372036854775807) (hr : ∀ r ∈ a.next,r.l.length < 9223372036854775807) (hw : ∀ r ∈ a.emit,r.l.length < 9223372036854775807) (hs : yFB a b) : L.pcall 29 [a.av,b.av] = some (.bool true) := by
 obtain ⟨e1,e2,e3,e4,e5⟩ := hs
 have q1 := yId (z1 := a.z) (z2 := b.z) (a := a.next) (b := b.next) h1 hr
 have q2 := yIe (z1 := a.ze) (z2 := b.ze) (a := a.emit) (b := b.emit) h2 hw
 rw [decide_eq_true e4] at q1
 rw [decide_eq_true e5] at q2
 unfold Mf.av Mf.cells
 rw [yHO,a29,xAf]
 simp (maxSteps := 30000000) (disch := first | assumption | omega | (simp only [WL,AV.isCell] <;> omega) | rfl | decide) only [↓reduceIte,WB,xCk,xAc,xBL,xAF,xBl,AV.cells,AV.isCell,xAl,xAx,xAO,xBx,xBy,xBz,xBA,xBB,xBC,xCC,xBD,xBE,xA3,xBF,xA4,xA5,xBG,xA6,xA7,xAL,Nat.reduceDiv,Nat.reduceMod,WP,xBO,xAM,xD2,xD1,xDd,xAX,xBq,xA9,W2,xAG,xAH,xA8,Nat.reduceAdd,Nat.reduceSub,Nat.reduceLeDiff,Nat.reduceMul,Int.reduceAdd,Int.reduceSub,Int.reduceMul,Int.reduceLT,Int.reduceLE,Int.reduceEq,Int.reduceToNat,Int.reduceNeg,Nat.reduceEqDiff,Nat.reduceBEq,Nat.reduceLT,xBr,xBk,List.length_map,e1,e2,e3,q1,q2]
def cpF (m : Mf) : Mf := ⟨m.i,m.o,m.s,m.next.length == 0,m.next.map xP8,m.emit.length == 0,m.emit.map xP9⟩
theorem xYj {m : Mf} (hS : Sm m) : L.pcall 14 [m.av] = some (cpF m).av := by
 have q1 := yFy (z := m.z) (l := m.next) (by have := hS.n; omega) (fun r hr => by have := hS.r r hr; omega)
 have q2 := yFA (z := m.ze) (l := m.emit) (by have := hS.e; omega) (fun r hr => by have := hS.w r hr; omega)
 unfold Mf.av Mf.cells cpF
 simp only [List.length_map]
 rw [yHL,a14,xAf]
 simp (maxSteps := 30000000) (disch := first | assumption | omega | (simp only [WL,AV.isCell] <;> omega) | rfl | decide) only [↓reduceIte,WB,xCk,xAc,xBL,xAF,xBl,AV.cells,AV.isCell,xAl,xAx,xAO,xBx,xBy,xBz,xBA,xBB,xBC,xCC,xBD,xBE,xA3,xBF,xA4,xA5,xBG,xA6,xA7,xAL,Nat.reduceDiv,Nat.reduceMod,WP,xBO,xAM,xD2,xD1,xDd,xAX,xBq,xA9,W2,xAG,xAH,xA8,Nat.reduceAdd,Nat.reduceSub,Nat.reduceLeDiff,Nat.reduceMul,Int.reduceAdd,Int.reduceSub,Int.reduceMul,Int.reduceLT,Int.reduceLE,Int.reduceEq,Int.reduceToNat,Int.reduceNeg,Nat.reduceEqDiff,Nat.reduceBEq,Nat.reduceLT,xBr,xBk,List.length_map,q1,q2]
theorem xTE (m : Mf) : yFB (cpF m) m := by
 refine ⟨rfl,rfl,rfl,?_,?_⟩
 ·show (m.next.map xP8).map Rw.l = _
  rw [List.map_map]; rfl
 ·show (m.emit.map xP9).map Wd.l = _
  rw [List.map_map]; rfl
theorem xTF (n wi wo : Nat) : ∀ (l : List Rw) (u : List Wd),xCu n wi wo (l.map xP8) (u.map xP9) = xCu n wi wo l u
 | [],_ => by simp [xCu]
 | _ :: _,[] => by simp [xCu]
 | r :: t,e :: u => by
  rw [List.map_cons,List.map_cons]
  unfold xCu
  rw [xTF n wi wo t u]
  rfl
theorem xM3 (m : Mf) : xEI (cpF m) = xEI m := by
 unfold xEI
 have e1 : (cpF m).next.length = m.next.length := List.length_map ..
 have e2 : (cpF m).emit.length = m.emit.length := List.length_map ..
 rw [e1,e2]
 have e3 := xTF m.next.length (two m.i.toNat) (two m.o.toNat) m.next m.emit
 show (if _ then xCu m.next.length (two m.i.toNat) (two m.o.toNat) (m.next.map xP8) (m.emit.map xP9) else _) = _
 rw [e3]; rfl
theorem yFC {m : Mf} (hS : Sm m) : Sm (cpF m) := by
 refine ⟨hS.i,hS.o,?_,?_,fun r hr => ?_,fun r hr => ?_,fun r hr => ?_⟩
 ·show (m.next.map _).length ≤ _; rw [List.length_map]; exact hS.n
 ·show (m.emit.map _).length ≤ _; rw [List.length_map]; exact hS.e
 ·obtain ⟨r',hr',rfl⟩ := List.mem_map.1 hr; exact hS.r r' hr'
 ·obtain ⟨r',hr',rfl⟩ := List.mem_map.1 hr; exact hS.w r' hr'
 ·obtain ⟨r',hr',rfl⟩ := List.mem_map.1 hr; exact hS.b r' hr'
theorem yAC {l : List (List Nat)} {k : Nat} (h : ∀ r ∈ l,r.length = k) (hk : 0 < k) : (l.map fun r => (⟨false,r.map Int.ofNat⟩ : Rw)).map xP8 = l.map fun r => (⟨false,r.map Int.ofNat⟩ : Rw) := by
 rw [List.map_map]
 refine List.map_congr_left fun r hr => ?_
 have := h r hr
 simp only [Function.comp,xP8,List.length_map]
 have e : (r.length == 0) = false := beq_eq_false_iff_ne.2 (by omega)
 rw [e]
theorem yAD {l : List (List Nat)} {k : Nat} (h : ∀ r ∈ l,r.length = k) (hk : 0 < k) : (l.map fun r => (⟨false,r⟩ : Wd)).map xP9 = l.map fun r => (⟨false,r⟩ : Wd) := by
 rw [List.map_map]
 refine List.map_congr_left fun r hr => ?_
 have := h r hr
 simp only [Function.comp,xP9]
 have e : (r.length == 0) = false := beq_eq_false_iff_ne.2 (by omega)
 rw [e]
theorem yCd {M : Ma} (hV : Vm M) : cpF M.toF = M.toF := by
 have h0 := hV.n0
 have he := hV.el
 have e1 := yAC hV.rl (xGw M.i)
 have e2 := yAD hV.wl (xGw M.i)
 unfold cpF Ma.toF
 simp only [List.length_map]
 rw [e1,e2]
 have z1 : (M.next.length == 0) = false := beq_eq_false_iff_ne.2 (by omega)
 have z2 : (M.emit.length == 0) = false := beq_eq_false_iff_ne.2 (by omega)
 rw [z1,z2]
theorem toF_av' {M : Ma} (hV : Vm M) : L.pcall 14 [M.av] = some M.av := by
 have h := xYj (xTA hV)
 rw [yCd hV,M.toF_av] at h
 exact h
theorem same_self' {M : Ma} (hV : Vm M) : L.pcall 29 [M.av,M.av] = some (.bool true) := by
 have hS := xTA hV
 have h := xTD (a := M.toF) (b := M.toF) (by have := hS.n; omega) (by have := hS.e; omega) (fun r hr => by have := hS.r r hr; omega) (fun r hr => by have := hS.w r hr; omega) ⟨rfl,rfl,rfl,rfl,rfl⟩
 rw [M.toF_av] at h
 exact h
def eqE (v : Int) : AV := .tup [.sl true 0 [],.bool false,.int .i64 v]
theorem xQ5 {a b : Mf} (hS : Sm a) (h : xEI a ≠ 0) : xBj L 37 [a.av,b.av] = some (eqE (xEI a),[]) := by
 have hc := xJl hS
 unfold eqE
 generalize xEI a = e at *
 unfold Mf.av at hc ⊢
 unfold Mf.cells at hc ⊢
 rw [xCd,yEc,a37,xCc]
 simp (maxSteps := 30000000) (disch := first | assumption | omega | (simp only [WL,AV.isCell,xAe] <;> omega) | rfl | decide) only [WB,Nat.reduceAdd,Nat.reduceSub,AV.cells,AV.isCell,↓reduceIte,Nat.reduceMul,Nat.reduceLeDiff,xKm,xKn,xGO,Int.reduceLT,hc,xBL,xAF,h,WP]
theorem xQ6 {a b : Mf} (hS : Sm a) (hT : Sm b) (h : xEI a = 0) (h2 : xEI b ≠ 0) : xBj L 37 [a.av,b.av] = some (eqE (xEI b),[]) := by
 have hc := xJl hS
 have hd := xJl hT
 unfold eqE
 rw [h] at hc
 generalize xEI b = e at *
 unfold Mf.av at hc hd ⊢
 unfold Mf.cells at hc hd ⊢
 rw [xCd,yEc,a37,xCc]
 simp (maxSteps := 30000000) (disch := first | assumption | omega | (simp only [WL,AV.isCell,xAe] <;> omega) | rfl | decide) only [WB,Nat.reduceAdd,Nat.reduceSub,AV.cells,AV.isCell,↓reduceIte,Nat.reduceMul,Nat.reduceLeDiff,xKm,xKn,xGO,Int.reduceLT,hc,xBL,xAF,hd,h2,WP]
theorem xQ7 {A B : Ma} (hA : Vm A) (hB : Vm B) (h : ¬ (A.i = B.i ∧ A.o = B.o)) : xBj L 37 [A.av,B.av] = some (eqE 7,[]) := by
 have hc := xDv hA
 have hd := xDv hB
 unfold eqE
 unfold Ma.av Ma.cells at hc hd ⊢
 by_cases c : A.i = B.i
 ·have c1 : (((A.i : Nat) : Int) = (B.i : Nat)) ↔ True := iff_true_intro (by omega)
  have c2 : ¬ (((A.o : Nat) : Int) = (B.o : Nat)) := fun e => h ⟨c,by omega⟩
  rw [xCd,yEc,a37,xCc]
  simp (maxSteps := 30000000) (disch := first | assumption | omega | (simp only [WL,AV.isCell,xAe] <;> omega) | rfl | decide) only [WB,Nat.reduceAdd,Nat.reduceSub,AV.cells,AV.isCell,↓reduceIte,Nat.reduceMul,Nat.reduceLeDiff,xKm,xKn,xGO,Int.reduceLT,hc,xBL,xAF,hd,Int.reduceAdd,c1,c2,WP]
 ·have c1 : ¬ (((A.i : Nat) : Int) = (B.i : Nat)) := by omega
  rw [xCd,yEc,a37,xCc]
  simp (maxSteps := 30000000) (disch := first | assumption | omega | (simp only [WL,AV.isCell,xAe] <;> omega) | rfl | decide) only [WB,Nat.reduceAdd,Nat.reduceSub,AV.cells,AV.isCell,↓reduceIte,Nat.reduceMul,Nat.reduceLeDiff,xKm,xKn,xGO,Int.reduceLT,hc,xBL,xAF,hd,Int.reduceAdd,c1,WP]
theorem yAE {a b : Mf} (hS : Sm a) (h : xEI a ≠ 0) : L.pcall 38 [a.av,b.av] = some (eqE (xEI a)) := by
 have hc := xJm hS
 unfold eqE
 generalize xEI a = e at *
 unfold Mf.av at hc ⊢
 unfold Mf.cells at hc ⊢
 rw [yEd,a38,xAf]
 simp (maxSteps := 30000000) (disch := first | assumption | omega | (simp only [WL,AV.isCell,xAe] <;> omega) | rfl | decide) only [WB,Nat.reduceAdd,Nat.reduceSub,AV.cells,AV.isCell,↓reduceIte,hc,xBL,xAF,h]
theorem yAF {a b : Mf} (hS : Sm a) (hT : Sm b) (h : xEI a = 0) (h2 : xEI b ≠ 0) : L.pcall 38 [a.av,b.av] = some (eqE (xEI b)) := by
 have hc := xJm hS
 have hd := xJm hT
 unfold eqE
 rw [h] at hc
 generalize xEI b = e at *
 unfold Mf.av at hc hd ⊢
 unfold Mf.cells at hc hd ⊢
 rw [yEd,a38,xAf]
 simp (maxSteps := 30000000) (disch := first | assumption | omega | (simp only [WL,AV.isCell,xAe] <;> omega) | rfl | decide) only [WB,Nat.reduceAdd,Nat.reduceSub,AV.cells,AV.isCell,↓reduceIte,hc,xBL,xAF,hd,h2]
theorem yAG {A B : Ma} (hA : Vm A) (hB : Vm B) (h : ¬ (A.i = B.i ∧ A.o = B.o)) : L.pcall 38 [A.av,B.av] = some (eqE 7) := by
 have hc := xDw hA
 have hd := xDw hB
 unfold eqE
 unfold Ma.av Ma.cells at hc hd ⊢
 by_cases c : A.i = B.i
 ·have c1 : (((A.i : Nat) : Int) = (B.i : Nat)) ↔ True := iff_true_intro (by omega)
  have c2 : ¬ (((A.o : Nat) : Int) = (B.o : Nat)) := fun e => h ⟨c,by omega⟩
  rw [yEd,a38,xAf]
  simp (maxSteps := 30000000) (disch := first | assumption | omega | (simp only [WL,AV.isCell,xAe] <;> omega) | rfl | decide) only [WB,Nat.reduceAdd,Nat.reduceSub,AV.cells,AV.isCell,↓reduceIte,hc,xBL,xAF,hd,c1,c2]
 ·have c1 : ¬ (((A.i : Nat) : Int) = (B.i : Nat)) := by omega
  rw [yEd,a38,xAf]
  simp (maxSteps := 30000000) (disch := first | assumption | omega | (simp only [WL,AV.isCell,xAe] <;> omega) | rfl | decide) only [WB,Nat.reduceAdd,Nat.reduceSub,AV.cells,AV.isCell,↓reduceIte,hc,xBL,xAF,hd,c1]
def xHo (n : Nat) (f : Nat → Bool) : List AV := (List.range n).map fun t => .bool (f t)
def xJn (n : Nat) : List AV := (List.range n).map fun s => .own false (2 + s) 0 n 1
theorem xAB (n : Nat) (f : Nat → Bool) : (xHo n f).length = n := by simp [xHo]
theorem xAP (n : Nat) : (xJn n).length = n := by simp [xJn]
theorem xM4 {n t : Nat} (h : t < n) : (List.range n).getD t 0 = t := by
 rw [List.getD_eq_getElem?_getD,List.getElem?_range h]
 rfl
theorem xGx {n t : Nat} {f : Nat → Bool} (h : t < n) : List.take 1 (List.drop t (xHo n f)) = [.bool (f t)] := by
 have := xDK (fun t => AV.bool (f t)) 0 (l := List.range n) (i := t) (by simpa using h)
 rw [xM4 h] at this
 exact this
theorem xHp {n t : Nat} (h : t < n) : List.take 1 (List.drop t (xJn n)) = [.own false (2 + t) 0 n 1] := by
 have := xDK (fun t => AV.own false (2 + t) 0 n 1) 0 (l := List.range n) (i := t) (by simpa using h)
 rw [xM4 h] at this
 exact this
def upd (D : Nat → Nat → Bool) (s t : Nat) : Nat → Nat → Bool := fun a b => D a b || (a == s && b == t)
theorem xTG {n t : Nat} {f : Nat → Bool} (h : t < n) : List.take t (xHo n f) ++ (AV.bool true :: List.drop (t + 1) (xHo n f)) = xHo n fun b => f b || b == t := by
 have e : (xHo n f).set t (.bool true) = List.take t (xHo n f) ++ (AV.bool true :: List.drop (t + 1) (xHo n f)) := by
  rw [List.set_eq_take_append_cons_drop,if_pos (by rw [xAB]; exact h)]
 rw [← e]
 unfold xHo
 apply List.ext_getElem (by simp)
 intro i a b
 rw [List.getElem_set]
 by_cases c : t = i
 ·subst c
  simp
 ·rw [if_neg c]
  have : (i == t) = false := beq_eq_false_iff_ne.2 (fun e => c e.symm)
  simp [this]
structure DI (M : Ma) (G : Heap) (D : Nat → Nat → Bool) : Prop where
 g0 : G[0]? = some (.cells false false M.cells)
 g1 : G[1]? = some (.cells false false (xJn M.next.length))
 row : ∀ s,s < M.next.length → G[2 + s]? = some (.cells false false (xHo M.next.length (D s)))
theorem DI.put {M : Ma} {G : Heap} {D : Nat → Nat → Bool} (h : DI M G D) {s t : Nat} (hs : s < M.next.length) : DI M (G.set (2 + s) (.cells false false (xHo M.next.length fun b => D s b || b == t))) (upd D s t) := by
 refine ⟨by rw [xAS (by omega),h.g0],by rw [xAS (by omega),h.g1],fun a ha => ?_⟩
 by_cases c : a = s
 ·subst c
  rw [xCt (xAI (h.row a ha))]
  congr 2
  unfold upd
  simp
 ·rw [xAS (by omega),h.row a ha]
  have e : upd D s t a = D a := by
   funext b
   have : (a == s) = false := beq_eq_false_iff_ne.2 c
   simp [upd,this]
  rw [e]
def xL7 (M : Ma) (D : Nat → Nat → Bool) (s t : Nat) : Nat → Nat → Bool
 | 0,_ => false
 | e + 1,i => (em M s i != em M t i) || D (nx M s i) (nx M t i) || xL7 M D s t e (i + 1)
abbrev F73 (n s t : Nat) (ch : Bool) (i : Nat) : List AV := xKI (.ptr 0 0) (.int .i64 (n : Nat)) (.own false 1 0 n 1) (.bool ch) (.int .i64 (s : Nat)) (.int .i64 (t : Nat)) (.int .i64 (i : Nat))
section
variable {M : Ma} {s t : Nat} {ch : Bool}
set_option maxHeartbeats 1000000 in
theorem xM5 (hV : Vm M) (hs : s < M.next.length) (ht : t < M.next.length) {G : Heap} {D : Nat → Nat → Bool} (h : DI M G D) (hD : D s t = true) {i : Nat} (hi : i ≤ two M.i) : L.loop xGQ xQR ⟨F73 M.next.length s t ch i,G⟩ = some (.exit 8,⟨F73 M.next.length s t ch i,G⟩) := by
 have hrs := hV.nl hs
 have g0 := h.g0
 have g1 := h.g1
 have gs := h.row s hs
 unfold Ma.cells at g0
 by_cases c : i < two M.i
 ·have c' : ((i : Nat) : Int) < (two M.i : Nat) := by omega
  rw [xKJ]
  simp (maxSteps := 30000000) (disch := first | assumption | omega | (simp only [WL,AV.isCell,xAB,xAP] <;> omega) | rfl | decide) only [xGP,WB,g0,xBU,rowI,hrs,c',↓reduceIte,g1,xHp,gs,xGx,hD,xGR]
 ·have c' : ¬ ((i : Nat) : Int) < (two M.i : Nat) := by omega
  rw [xKJ]
  simp (maxSteps := 30000000) (disch := first | assumption | omega | (simp only [WL,AV.isCell,xAB,xAP] <;> omega) | rfl | decide) only [xGP,WB,g0,xBU,rowI,hrs,c',↓reduceIte,xGR]
set_option maxHeartbeats 2000000 in
theorem yHG (hV : Vm M) (hs : s < M.next.length) (ht : t < M.next.length) {G : Heap} {D : Nat → Nat → Bool} (h : DI M G D) (hD : D s t = false) : ∀ e i,i + e = two M.i →
  ∃ i' G',L.loop xGQ xQR ⟨F73 M.next.length s t ch i,G⟩ = some (.exit 8,⟨F73 M.next.length s t (ch || xL7 M D s t e i) i',G'⟩) ∧ DI M G' (if xL7 M D s t e i then upd D s t else D)
 | 0,i,he => by
  have hrs := hV.nl hs
  have g0 := h.g0
  have g1 := h.g1
  have gs := h.row s hs
  have c' : ¬ ((i : Nat) : Int) < (two M.i : Nat) := by omega
  unfold Ma.cells at g0
  refine ⟨i,G,?_,by simpa [xL7] using h⟩
  rw [xL7,Bool.or_false,xKJ]
  simp (maxSteps := 30000000) (disch := first | assumption | omega | (simp only [WL,AV.isCell,xAB,xAP] <;> omega) | rfl | decide) only [xGP,WB,g0,xBU,rowI,hrs,c',↓reduceIte,xGR]
 | e + 1,i,he => by
  have hi : i < two M.i := by omega
  have c' : ((i : Nat) : Int) < (two M.i : Nat) := by omega
  have hrs := hV.nl hs
  have hrt := hV.nl ht
  have hws := hV.wl' hs
  have hwt := hV.wl' ht
  have hel := hV.el
  have g0 := h.g0
  have g1 := h.g1
  have gs := h.row s hs
  have hns := hV.nx hs hi
  have hnt := hV.nx ht hi
  have gn := h.row _ hns
  have h64 : two M.i ≤ 64 := by have := xCw (show M.i ≤ 6 by have := hV.io; omega); have : two 6 = 64 := rfl; omega
  have hes : s < M.emit.length := by omega
  have het : t < M.emit.length := by omega
  unfold Ma.cells at g0
  rw [xL7]
  by_cases c1 : em M s i = em M t i
  ·have b1 : (em M s i != em M t i) = false := by simp [c1]
   have c2 : (M.emit.getD s []).getD i 0 = (M.emit.getD t []).getD i 0 := c1
   rw [b1,Bool.false_or]
   cases c3 : D (nx M s i) (nx M t i) with
   | true =>
    rw [Bool.true_or,Bool.or_true,if_pos rfl]
    have hu := h.put (t := t) hs
    have ho := xM5 (ch := true) hV hs ht hu (by simp [upd]) (i := i + 1) (by omega)
    refine ⟨i + 1,_,?_,hu⟩
    unfold nx at gn c3 hns hnt
    rw [xKJ]
    simp (maxSteps := 30000000) (disch := first | assumption | omega | (simp only [WL,AV.isCell,xAB,xAP] <;> omega) | rfl | decide) only [xGP,WB,g0,xBU,rowI,hrs,c',↓reduceIte,g1,xHp,gs,xGx,hD,xCf,rowB,hws,c2,hwt,hrt,xAc,gn,c3,AV.cells,xTG,xGR,ho]
   | false =>
    rw [Bool.false_or]
    obtain ⟨i',G',e1,e2⟩ := yHG hV hs ht h hD e (i + 1) (by omega)
    refine ⟨i',G',?_,e2⟩
    unfold nx at gn c3 hns hnt
    rw [xKJ]
    simp (maxSteps := 30000000) (disch := first | assumption | omega | (simp only [WL,AV.isCell,xAB,xAP] <;> omega) | rfl | decide) only [xGP,WB,g0,xBU,rowI,hrs,c',↓reduceIte,g1,xHp,gs,xGx,hD,xCf,rowB,hws,c2,hwt,hrt,xAc,gn,c3,xGR,e1]
  ·have b1 : (em M s i != em M t i) = true := by simp [c1]
   have c2 : ¬ ((((M.emit.getD s []).getD i 0 : Nat) : Int) = (((M.emit.getD t []).getD i 0 : Nat) : Int)) := by
    intro e; exact c1 (by unfold em; omega)
   rw [b1,Bool.true_or,Bool.true_or,Bool.or_true,if_pos rfl]
   have hu := h.put (t := t) hs
   have ho := xM5 (ch := true) hV hs ht hu (by simp [upd]) (i := i + 1) (by omega)
   refine ⟨i + 1,_,?_,hu⟩
   rw [xKJ]
   simp (maxSteps := 30000000) (disch := first | assumption | omega | (simp only [WL,AV.isCell,xAB,xAP] <;> omega) | rfl | decide) only [xGP,WB,g0,xBU,rowI,hrs,c',↓reduceIte,g1,xHp,gs,xGx,hD,xCf,rowB,hws,hwt,c2,xAc,AV.cells,xTG,xGR,ho]
end
def stD (M : Ma) (x : (Nat → Nat → Bool) × Bool) (s t : Nat) : (Nat → Nat → Bool) × Bool :=
 if x.1 s t = true then x else (if xL7 M x.1 s t (two M.i) 0 then upd x.1 s t else x.1,x.2 || xL7 M x.1 s t (two M.i) 0)
def ptD (M : Ma) (s : Nat) : Nat → Nat → (Nat → Nat → Bool) × Bool → (Nat → Nat → Bool) × Bool
 | 0,_,x => x
 | e + 1,t,x => ptD M s e (t + 1) (stD M x s t)
def psD (M : Ma) : Nat → Nat → (Nat → Nat → Bool) × Bool → (Nat → Nat → Bool) × Bool
 | 0,_,x => x
 | e + 1,s,x => psD M e (s + 1) (ptD M s M.next.length 0 x)
def paD (M : Ma) (D : Nat → Nat → Bool) : (Nat → Nat → Bool) × Bool := psD M M.next.length 0 (D,false)
section
variable {M : Ma} {s t : Nat}
set_option maxHeartbeats 1000000 in
theorem yDJ (hV : Vm M) (hs : s < M.next.length) : ∀ e t (x : (Nat → Nat → Bool) × Bool) (G : Heap),t + e = M.next.length → DI M G x.1 →
  ∃ G',L.loop xKK xV3 ⟨xKL (.ptr 0 0) (.int .i64 (M.next.length : Nat)) (.own false 1 0 M.next.length 1) (.bool x.2) (.int .i64 (s : Nat)) (.int .i64 (t : Nat)),G⟩ =
   some (.exit 6,⟨xKL (.ptr 0 0) (.int .i64 (M.next.length : Nat)) (.own false 1 0 M.next.length 1) (.bool (ptD M s e t x).2) (.int .i64 (s : Nat)) (.int .i64 (M.next.length : Nat)),G'⟩) ∧ DI M G' (ptD M s e t x).1
 | 0,t,x,G,he,h => by
  obtain rfl : t = M.next.length := by omega
  have hn9 := hV.n9
  refine ⟨G,?_,h⟩
  rw [ptD,xV4]
  simp (maxSteps := 30000000) (disch := first | assumption | omega | (simp only [WL,AV.isCell,xAB,xAP] <;> omega) | rfl | decide) only [xOz,WB,↓reduceIte,xRT]
 | e + 1,t,x,G,he,h => by
  have ht : t < M.next.length := by omega
  have hn9 := hV.n9
  have c' : ((t : Nat) : Int) < (M.next.length : Nat) := by omega
  rw [ptD]
  cases hD : x.1 s t with
  | true =>
   have e0 : stD M x s t = x := by unfold stD; rw [if_pos hD]
   have ho := xM5 (ch := x.2) hV hs ht h hD (i := 0) (by omega)
   rw [e0]
   obtain ⟨G',e1,e2⟩ := yDJ hV hs e (t + 1) x G (by omega) h
   refine ⟨G',?_,e2⟩
   change L.loop xGQ xQR ⟨xKI (.ptr 0 0) (.int .i64 (M.next.length : Nat)) (.own false 1 0 M.next.length 1) (.bool x.2) (.int .i64 (s : Nat)) (.int .i64 (t : Nat)) (.int .i64 0),G⟩ = _ at ho
   rw [xV4]
   simp (maxSteps := 30000000) (disch := first | assumption | omega | (simp only [WL,AV.isCell,xAB,xAP] <;> omega) | rfl | decide) only [xOz,WB,c',↓reduceIte,xGR,ho,xRT,e1]
  | false =>
   have e0 : stD M x s t = (if xL7 M x.1 s t (two M.i) 0 then upd x.1 s t else x.1,x.2 || xL7 M x.1 s t (two M.i) 0) := by unfold stD; rw [if_neg (by rw [hD]; simp)]
   obtain ⟨i',G1,h1,h2⟩ := yHG (ch := x.2) hV hs ht h hD (two M.i) 0 (by omega)
   rw [e0]
   obtain ⟨G',e1,e2⟩ := yDJ hV hs e (t + 1) (if xL7 M x.1 s t (two M.i) 0 then upd x.1 s t else x.1,x.2 || xL7 M x.1 s t (two M.i) 0) G1 (by omega) h2
   refine ⟨G',?_,e2⟩
   simp only at e1
   change L.loop xGQ xQR ⟨xKI (.ptr 0 0) (.int .i64 (M.next.length : Nat)) (.own false 1 0 M.next.length 1) (.bool x.2) (.int .i64 (s : Nat)) (.int .i64 (t : Nat)) (.int .i64 0),G⟩ = _ at h1
   rw [xV4]
   simp (maxSteps := 30000000) (disch := first | assumption | omega | (simp only [WL,AV.isCell,xAB,xAP] <;> omega) | rfl | decide) only [xOz,WB,c',↓reduceIte,xGR,h1,xRT,e1]
set_option maxHeartbeats 1000000 in
theorem yFD (hV : Vm M) : ∀ e s (x : (Nat → Nat → Bool) × Bool) (G : Heap),s + e = M.next.length → DI M G x.1 →
  ∃ G',L.loop xKM xV5 ⟨xKN (.ptr 0 0) (.int .i64 (M.next.length : Nat)) (.own false 1 0 M.next.length 1) (.bool x.2) (.int .i64 (s : Nat)),G⟩ =
   some (.exit 4,⟨xKN (.ptr 0 0) (.int .i64 (M.next.length : Nat)) (.own false 1 0 M.next.length 1) (.bool (psD M e s x).2) (.int .i64 (M.next.length : Nat)),G'⟩) ∧ DI M G' (psD M e s x).1
 | 0,s,x,G,he,h => by
  obtain rfl : s = M.next.length := by omega
  have hn9 := hV.n9
  refine ⟨G,?_,h⟩
  rw [psD,yBh]
  simp (maxSteps := 30000000) (disch := first | assumption | omega | (simp only [WL,AV.isCell,xAB,xAP] <;> omega) | rfl | decide) only [xRU,WB,↓reduceIte,xRV]
 | e + 1,s,x,G,he,h => by
  have hs : s < M.next.length := by omega
  have hn9 := hV.n9
  have c' : ((s : Nat) : Int) < (M.next.length : Nat) := by omega
  rw [psD]
  obtain ⟨G1,h1,h2⟩ := yDJ hV hs M.next.length 0 x G (by omega) h
  obtain ⟨G',e1,e2⟩ := yFD hV e (s + 1) (ptD M s M.next.length 0 x) G1 (by omega) h2
  refine ⟨G',?_,e2⟩
  change L.loop xKK xV3 ⟨xKL (.ptr 0 0) (.int .i64 (M.next.length : Nat)) (.own false 1 0 M.next.length 1) (.bool x.2) (.int .i64 (s : Nat)) (.int .i64 0),G⟩ = _ at h1
  rw [yBh]
  simp (maxSteps := 30000000) (disch := first | assumption | omega | (simp only [WL,AV.isCell,xAB,xAP] <;> omega) | rfl | decide) only [xRU,WB,c',↓reduceIte,xRT,h1,xRV,e1]
theorem yFE {D : Nat → Nat → Bool} {s t a b : Nat} (h : D a b = true) : upd D s t a b = true := by simp [upd,h]
theorem xTH {D : Nat → Nat → Bool} : ∀ e i,xL7 M D s t e i = true → ∃ j,i ≤ j ∧ j < i + e ∧ (em M s j ≠ em M t j ∨ D (nx M s j) (nx M t j) = true)
 | 0,i,h => by simp [xL7] at h
 | e + 1,i,h => by
  simp only [xL7,Bool.or_eq_true,bne_iff_ne] at h
  rcases h with (h | h) | h
  ·exact ⟨i,by omega,by omega,.inl h⟩
  ·exact ⟨i,by omega,by omega,.inr h⟩
  ·obtain ⟨j,h1,h2,h3⟩ := xTH e (i + 1) h
   exact ⟨j,by omega,by omega,h3⟩
theorem xTI {D : Nat → Nat → Bool} : ∀ e i,xL7 M D s t e i = false → ∀ j,i ≤ j → j < i + e → em M s j = em M t j ∧ D (nx M s j) (nx M t j) = false
 | 0,i,h => fun j h1 h2 => by omega
 | e + 1,i,h => fun j h1 h2 => by
  simp only [xL7,Bool.or_eq_false_iff,bne_eq_false_iff_eq] at h
  by_cases c : j = i
  ·subst c
   exact h.1
  ·exact xTI e (i + 1) h.2 j (by omega) (by omega)
def Snd (M : Ma) (D : Nat → Nat → Bool) : Prop := ∀ s t,s < M.next.length → t < M.next.length → D s t = true → ¬ Sim M M s t
theorem yFF (hV : Vm M) {x : (Nat → Nat → Bool) × Bool} (h : Snd M x.1) (hs : s < M.next.length) (ht : t < M.next.length) : Snd M (stD M x s t).1 := by
 unfold stD
 split
 ·exact h
 ·simp only
  split
  ·rename_i hh
   intro a b ha hb hab
   simp only [upd,Bool.or_eq_true,Bool.and_eq_true,beq_iff_eq] at hab
   rcases hab with hab | ⟨rfl,rfl⟩
   ·exact h a b ha hb hab
   ·obtain ⟨j,_,h2,h3⟩ := xTH _ _ hh
    intro hS
    obtain ⟨k1,k2⟩ := hS.next (show j < two M.i by omega)
    rcases h3 with h3 | h3
    ·exact h3 k1
    ·exact h _ _ (hV.nx hs (by omega)) (hV.nx ht (by omega)) h3 k2
  ·exact h
structure Cmp (n : Nat) (x y : (Nat → Nat → Bool) × Bool) : Prop where
 le : ∀ a b,x.1 a b = true → y.1 a b = true
 ch : x.2 = true → y.2 = true
 new : x.2 = false → y.2 = true → ∃ a b,a < n ∧ b < n ∧ x.1 a b = false ∧ y.1 a b = true
 old : y.2 = false → y.1 = x.1
theorem Cmp.refl (n : Nat) (x : (Nat → Nat → Bool) × Bool) : Cmp n x x := ⟨fun _ _ h => h,fun h => h,fun h h' => (by rw [h] at h'; cases h'),fun _ => rfl⟩
theorem Cmp.trans {n : Nat} {x y z : (Nat → Nat → Bool) × Bool} (h : Cmp n x y) (k : Cmp n y z) : Cmp n x z := by
 refine ⟨fun a b q => k.le a b (h.le a b q),fun q => k.ch (h.ch q),fun q1 q2 => ?_,fun q => ?_⟩
 ·cases c : y.2 with
  | true =>
   obtain ⟨a,b,h1,h2,h3,h4⟩ := h.new q1 c
   exact ⟨a,b,h1,h2,h3,k.le a b h4⟩
  | false =>
   obtain ⟨a,b,h1,h2,h3,h4⟩ := k.new c q2
   rw [h.old c] at h3
   exact ⟨a,b,h1,h2,h3,h4⟩
 ·have : y.2 = false := by
   cases c : y.2 with
   | false => rfl
   | true => rw [k.ch c] at q; cases q
  rw [k.old q,h.old this]
theorem yFG (x : (Nat → Nat → Bool) × Bool) (hs : s < M.next.length) (ht : t < M.next.length) : Cmp M.next.length x (stD M x s t) := by
 unfold stD
 split
 ·exact .refl _ _
 ·rename_i hD
  have hD' : x.1 s t = false := by simpa using hD
  cases c : xL7 M x.1 s t (two M.i) 0 with
  | true =>
   refine ⟨fun a b q => yFE q,fun _ => by simp,fun _ _ => ⟨s,t,hs,ht,hD',by simp [upd]⟩,fun q => by simp at q⟩
  | false => exact ⟨fun a b q => by simpa using q,fun q => by simp [q],fun q1 q2 => by simp [q1] at q2,fun _ => by simp⟩
theorem yCe (hV : Vm M) (hs : s < M.next.length) : ∀ e t (x : (Nat → Nat → Bool) × Bool),t + e = M.next.length → Cmp M.next.length x (ptD M s e t x) ∧ (Snd M x.1 → Snd M (ptD M s e t x).1) ∧ (x.2 = false → (ptD M s e t x).2 = false → ∀ b,t ≤ b → b < M.next.length → x.1 s b = false → xL7 M x.1 s b (two M.i) 0 = false)
 | 0,t,x,he => ⟨.refl _ _,fun h => h,fun _ _ b h1 h2 => by omega⟩
 | e + 1,t,x,he => by
  have ht : t < M.next.length := by omega
  obtain ⟨h1,h2,h3⟩ := yCe hV hs e (t + 1) (stD M x s t) (by omega)
  have k := yFG x hs ht
  refine ⟨k.trans h1,fun h => h2 (yFF hV h hs ht),fun q1 q2 b b1 b2 b3 => ?_⟩
  have q3 : (stD M x s t).2 = false := by
   cases c : (stD M x s t).2 with
   | false => rfl
   | true => rw [ptD,h1.ch c] at q2; cases q2
  have q4 := k.old q3
  by_cases c : b = t
  ·subst c
   unfold stD at q3
   rw [if_neg (by rw [b3]; simp)] at q3
   simp only [Bool.or_eq_false_iff] at q3
   exact q3.2
  ·have := h3 q3 q2 b (by omega) b2 (by rw [q4]; exact b3)
   rw [q4] at this
   exact this
theorem xYk (hV : Vm M) : ∀ e s (x : (Nat → Nat → Bool) × Bool),s + e = M.next.length → Cmp M.next.length x (psD M e s x) ∧ (Snd M x.1 → Snd M (psD M e s x).1) ∧ (x.2 = false → (psD M e s x).2 = false → ∀ a,s ≤ a → a < M.next.length → ∀ b,b < M.next.length → x.1 a b = false → xL7 M x.1 a b (two M.i) 0 = false)
 | 0,s,x,he => ⟨.refl _ _,fun h => h,fun _ _ a h1 h2 => by omega⟩
 | e + 1,s,x,he => by
  have hs : s < M.next.length := by omega
  obtain ⟨k1,k2,k3⟩ := yCe hV hs M.next.length 0 x (by omega)
  obtain ⟨h1,h2,h3⟩ := xYk hV e (s + 1) (ptD M s M.next.length 0 x) (by omega)
  refine ⟨k1.trans h1,fun h => h2 (k2 h),fun q1 q2 a a1 a2 b b1 b3 => ?_⟩
  have q3 : (ptD M s M.next.length 0 x).2 = false := by
   cases c : (ptD M s M.next.length 0 x).2 with
   | false => rfl
   | true => rw [psD,h1.ch c] at q2; cases q2
  have q4 := k1.old q3
  by_cases c : a = s
  ·subst c
   exact k3 q1 q3 b (by omega) b1 b3
  ·have := h3 q3 q2 a (by omega) a2 b b1 (by rw [q4]; exact b3)
   rw [q4] at this
   exact this
theorem yCf (hV : Vm M) {D : Nat → Nat → Bool} (h : (paD M D).2 = false) : ∀ (w : List Nat) (s t : Nat),s < M.next.length → t < M.next.length → D s t = false → (∀ x ∈ w,x < two M.i) → xQf M s w = xQf M t w
 | [],_,_,_,_,_,_ => rfl
 | x :: w,s,t,hs,ht,hD,hw => by
  have hx := hw x (by simp)
  have := (xYk hV M.next.length 0 (D,false) (by omega)).2.2 rfl h s (by omega) hs t ht hD
  obtain ⟨e1,e2⟩ := xTI _ _ this x (by omega) (by omega)
  rw [xQf,xQf,e1,yCf hV h w _ _ (hV.nx hs hx) (hV.nx ht hx) e2 (fun y hy => hw y (by simp [hy]))]
def yGg (n : Nat) (D : Nat → Nat → Bool) : Nat := (((List.range n).flatMap fun a => (List.range n).map fun b => (a,b)).filter fun p => !D p.1 p.2).length
theorem xYl {α : Type} {f g : α → Bool} : ∀ {l : List α},(∀ x ∈ l,g x = true → f x = true) → (∃ x ∈ l,f x = true ∧ g x = false) → (l.filter g).length < (l.filter f).length
 | [],_,h => by obtain ⟨_,h,_⟩ := h; cases h
 | a :: l,h1,h2 => by
  have hle : ∀ {l : List α},(∀ x ∈ l,g x = true → f x = true) → (l.filter g).length ≤ (l.filter f).length := by
   intro l
   induction l with
   | nil => intro _; simp
   | cons b l ih =>
    intro h
    have := ih (fun x hx => h x (by simp [hx]))
    rw [List.filter_cons,List.filter_cons]
    cases c : g b with
    | true =>
     rw [h b (by simp) c]
     simpa using this
    | false =>
     cases c' : f b <;> simp <;> omega
  have hl := hle (l := l) (fun x hx => h1 x (by simp [hx]))
  rw [List.filter_cons,List.filter_cons]
  obtain ⟨x,hx,k1,k2⟩ := h2
  rcases List.mem_cons.1 hx with rfl | hx
  ·rw [k1,k2]
   simp
   omega
  ·have := xYl (l := l) (fun x hx => h1 x (by simp [hx])) ⟨x,hx,k1,k2⟩
   cases c : g a with
   | true =>
    rw [h1 a (by simp) c]
    simpa using this
   | false =>
    cases c' : f a <;> simp <;> omega
theorem yFH {n : Nat} {x y : (Nat → Nat → Bool) × Bool} (h : Cmp n x y) (h1 : x.2 = false) (h2 : y.2 = true) : yGg n y.1 < yGg n x.1 := by
 obtain ⟨a,b,ha,hb,e1,e2⟩ := h.new h1 h2
 refine xYl (fun p _ hp => ?_) ⟨(a,b),?_,by simp [e1],by simp [e2]⟩
 ·cases c : x.1 p.1 p.2 with
  | false => rfl
  | true =>
   have := h.le _ _ c
   rw [this] at hp
   cases hp
 ·simp only [List.mem_flatMap,List.mem_range,List.mem_map]
  exact ⟨a,ha,b,hb,rfl⟩
set_option maxHeartbeats 1000000 in
theorem xTJ (hV : Vm M) : ∀ (k : Nat) (D : Nat → Nat → Bool) (G : Heap),yGg M.next.length D < k → DI M G D → Snd M D →
  ∃ D' G',L.loop xKO xV6 ⟨xIa (.ptr 0 0) (.int .i64 (M.next.length : Nat)) (.own false 1 0 M.next.length 1) (.bool true),G⟩ =
   some (.exit 2,⟨xIa (.ptr 0 0) (.int .i64 (M.next.length : Nat)) (.own false 1 0 M.next.length 1) (.bool false),G'⟩) ∧ DI M G' D' ∧ Snd M D' ∧ (paD M D').2 = false
 | 0,D,G,hk,_,_ => by omega
 | k + 1,D,G,hk,h,hS => by
  have hn9 := hV.n9
  obtain ⟨G1,h1,h2⟩ := yFD hV M.next.length 0 (D,false) G (by omega) h
  obtain ⟨c1,c2,c3⟩ := xYk hV M.next.length 0 (D,false) (by omega)
  change L.loop xKM xV5 ⟨xKN (.ptr 0 0) (.int .i64 (M.next.length : Nat)) (.own false 1 0 M.next.length 1) (.bool false) (.int .i64 0),G⟩ = _ at h1
  cases hc : (psD M M.next.length 0 (D,false)).2 with
  | true =>
   obtain ⟨D',G',e1,e2⟩ := xTJ hV k _ G1 (by have := yFH c1 rfl hc; simp only at this; omega) h2 (c2 hS)
   refine ⟨D',G',?_,e2⟩
   rw [hc] at h1
   rw [xV7]
   simp (maxSteps := 30000000) (disch := first | assumption | omega | (simp only [WL,AV.isCell,xAB,xAP] <;> omega) | rfl | decide) only [xOA,WB,↓reduceIte,xRV,h1,xRW,e1]
  | false =>
   have ho := c1.old hc
   simp only at ho
   rw [ho] at h2
   refine ⟨D,G1,?_,h2,hS,hc⟩
   rw [hc] at h1
   have hend : L.loop xKO xV6 ⟨xIa (.ptr 0 0) (.int .i64 (M.next.length : Nat)) (.own false 1 0 M.next.length 1) (.bool false),G1⟩ = some (.exit 2,⟨xIa (.ptr 0 0) (.int .i64 (M.next.length : Nat)) (.own false 1 0 M.next.length 1) (.bool false),G1⟩) := by
    rw [xV7]
    simp (maxSteps := 30000000) (disch := first | assumption | omega | (simp only [WL,AV.isCell,xAB,xAP] <;> omega) | rfl | decide) only [xOA,WB,↓reduceIte,xRW]
   rw [xV7]
   simp (maxSteps := 30000000) (disch := first | assumption | omega | (simp only [WL,AV.isCell,xAB,xAP] <;> omega) | rfl | decide) only [xOA,WB,↓reduceIte,xRV,h1,xRW,hend]
end
theorem xYm (n : Nat) : xCB [AV.bool false] n = xHo n fun _ => false := by
 have h : xCB [AV.bool false] n = List.replicate n (.bool false) := by
  induction n with
  | zero => rfl
  | succ n ih => simp [xCB,ih,List.replicate_succ]
 rw [h]
 unfold xHo
 apply List.ext_getElem (by simp)
 intro i a b
 simp
def otD (n k : Nat) : List AV := (List.range n).map fun s => if s < k then .own false (2 + s) 0 n 1 else .sl true 0 []
theorem xM6 (n k : Nat) : (otD n k).length = n := by simp [otD]
theorem yG6 (n : Nat) : otD n 0 = List.replicate n (.sl true 0 []) := by
 unfold otD
 apply List.ext_getElem (by simp)
 intro i a b
 simp
theorem yDK (n : Nat) : otD n n = xJn n := by
 unfold otD xJn
 refine List.map_congr_left fun s hs => ?_
 rw [if_pos (List.mem_range.1 hs)]
theorem yDL {n k : Nat} (h : k < n) : List.take k (otD n k) ++ (AV.own false (2 + k) 0 n 1 :: List.drop (k + 1) (otD n k)) = otD n (k + 1) := by
 have e : (otD n k).set k (AV.own false (2 + k) 0 n 1) = List.take k (otD n k) ++ (AV.own false (2 + k) 0 n 1 :: List.drop (k + 1) (otD n k)) := by
  rw [List.set_eq_take_append_cons_drop,if_pos (by rw [xM6]; exact h)]
 rw [← e]
 unfold otD
 apply List.ext_getElem (by simp)
 intro i a b
 rw [List.getElem_set]
 by_cases c : k = i
 ·subst c
  simp
 ·rw [if_neg c]
  by_cases c2 : i < k
  ·have : i < k + 1 := by omega
   simp [c2,this]
  ·have : ¬ i < k + 1 := by omega
   simp [c2,this]
section
variable {M : Ma}
set_option maxHeartbeats 1000000 in
theorem yFI (hV : Vm M) : ∀ e k (G : Heap),k + e = M.next.length → G.length = 2 + k → G[0]? = some (.cells false false M.cells) → G[1]? = some (.cells false false (otD M.next.length k)) → (∀ s,s < k → G[2 + s]? = some (.cells false false (xHo M.next.length fun _ => false))) →
  ∃ G',L.loop xKG xV1 ⟨xKH (.ptr 0 0) (.int .i64 (M.next.length : Nat)) (.own false 1 0 M.next.length 1) (.int .i64 (k : Nat)),G⟩ =
   some (.exit 0,⟨xKH (.ptr 0 0) (.int .i64 (M.next.length : Nat)) (.own false 1 0 M.next.length 1) (.int .i64 (M.next.length : Nat)),G'⟩) ∧ DI M G' fun _ _ => false
 | 0,k,G,he,hl,h0,h1,h2 => by
  obtain rfl : k = M.next.length := by omega
  have hn9 := hV.n9
  rw [yDK] at h1
  refine ⟨G,?_,h0,h1,h2⟩
  rw [yBg]
  simp (maxSteps := 30000000) (disch := first | assumption | omega | (simp only [WL,AV.isCell,xAB,xAP,xM6] <;> omega) | rfl | decide) only [xRS,WB,↓reduceIte,xV2]
 | e + 1,k,G,he,hl,h0,h1,h2 => by
  have hk : k < M.next.length := by omega
  have hn9 := hV.n9
  have c' : ((k : Nat) : Int) < (M.next.length : Nat) := by omega
  have hput := yDL hk
  obtain ⟨G',e1,e2⟩ := yFI hV e (k + 1) (G.set 1 (.cells false false (otD M.next.length (k + 1))) ++ [.cells false false (xHo M.next.length fun _ => false)]) (by omega) (by simp; omega) (by rw [xAZ (by simp; omega),xAS (by omega),h0]) (by rw [xAZ (by simp; omega),xCt (by omega)]) (fun s hs => by
   by_cases c : s < k
   ·rw [xAZ (by simp; omega),xAS (by omega),h2 s c]
   ·obtain rfl : s = k := by omega
    rw [xD3 (by simp; omega)]; rfl)
  refine ⟨G',?_,e2⟩
  rw [yBg]
  simp (maxSteps := 30000000) (disch := first | assumption | omega | (simp only [WL,AV.isCell,xAB,xAP,xM6] <;> omega) | rfl | decide) only [xRS,WB,c',↓reduceIte,xYm,hl,AV.cells,xAZ,h1,hput,xNg,xV2,e1]
theorem xYn (d n : Nat) (H : Heap) (f : Nat → Bool) : (xHo n f).mapM (frz d H) = some (xHo n f) := by
 unfold xHo
 induction List.range n with
 | nil => rfl
 | cons a l ih =>
  rw [List.map_cons,List.mapM_cons,ih,xMM]
  rfl
def xFe (n : Nat) (D : Nat → Nat → Bool) : List AV := (List.range n).map fun s => .sl false n (xHo n (D s))
theorem yAH {d n : Nat} {G : Heap} {D : Nat → Nat → Bool} (h : ∀ s,s < n → G[2 + s]? = some (.cells false false (xHo n (D s)))) : (xJn n).mapM (frz (d + 1) G) = some (xFe n D) := by
 unfold xJn xFe
 have hl : ∀ s ∈ List.range n,G[2 + s]? = some (.cells false false (xHo n (D s))) := fun s hs => h s (List.mem_range.1 hs)
 generalize List.range n = l at hl
 induction l with
 | nil => rfl
 | cons a l ih =>
  rw [List.map_cons,List.mapM_cons,ih (fun s hs => hl s (by simp [hs])),xAx,hl a (by simp),xBR (by rw [xAB]; omega),Nat.mul_one,List.drop_zero,List.take_of_length_le (by rw [xAB]; exact Nat.le_refl _),xYn]
  rfl
set_option maxHeartbeats 1000000 in
theorem yDM (hV : Vm M) : ∃ D : Nat → Nat → Bool,L.pcall 73 [M.av] = some (.sl false M.next.length (xFe M.next.length D)) ∧ ∀ s t,s < M.next.length → t < M.next.length → (D s t = true ↔ ¬ Sim M M s t) := by
 have hn9 := hV.n9
 obtain ⟨G1,h1,h2⟩ := yFI hV M.next.length 0 [.cells false false M.cells,.cells false false (otD M.next.length 0)] (by omega) rfl rfl rfl (fun s hs => by omega)
 obtain ⟨D,G2,k1,k2,k3,k4⟩ := xTJ hV (yGg M.next.length (fun _ _ => false) + 1) (fun _ _ => false) G1 (by omega) h2 (fun s t _ _ h => by cases h)
 refine ⟨D,?_,fun s t hs ht => ⟨k3 s t hs ht,fun h => ?_⟩⟩
 ·rw [yG6] at h1
  have h2' := k2.g1
  have hf : ∀ d,(xJn M.next.length).mapM (frz (d + 1) G2) = some (xFe M.next.length D) := fun d => yAH k2.row
  have htk : List.take M.next.length (xJn M.next.length) = xJn M.next.length := List.take_of_length_le (by rw [xAP]; exact Nat.le_refl _)
  unfold Ma.cells at h1
  unfold Ma.av Ma.cells
  change L.loop xKG xV1 ⟨xKH (.ptr 0 0) (.int .i64 (M.next.length : Nat)) (.own false 1 0 M.next.length 1) (.int .i64 0),_⟩ = _ at h1
  have hz : xCB [AV.sl true 0 []] M.next.length = List.replicate M.next.length (.sl true 0 []) := by
   induction M.next.length with
   | zero => rfl
   | succ n ih => simp [xCB,ih,List.replicate_succ]
  have hf2 : ∀ d,frz (d + 1 + 1) G2 (.own false 1 0 M.next.length 1) = some (.sl false M.next.length (xFe M.next.length D)) := fun d => by
   rw [xAx,h2',xBR (by rw [xAP]; omega),Nat.mul_one,List.drop_zero,htk,hf]
   rfl
  have hf3 := hf2 4
  rw [yHZ,a73,xAf]
  simp (maxSteps := 30000000) (disch := first | assumption | omega | (simp only [WL,AV.isCell,xAB,xAP,xM6] <;> omega) | rfl | decide) only [WB,Nat.reduceSub,AV.cells,AV.isCell,↓reduceIte,hz,xV2,h1,xRW,k1,hf3]
 ·cases c : D s t with
  | true => rfl
  | false => exact absurd (fun w hw => yCf hV k4 w s t hs ht c hw) h
end
def xJo (D : Nat → Nat → Bool) (t : Nat) : List Nat → Nat
 | [] => 0
 | a :: l => if D a t = true then xJo D t l + 1 else 0
theorem xYo (D : Nat → Nat → Bool) (t : Nat) : ∀ l : List Nat,xJo D t l ≤ l.length
 | [] => Nat.le_refl _
 | a :: l => by
  have := xYo D t l
  rw [xJo]
  split <;> simp <;> omega
def xQa (D : Nat → Nat → Bool) (ls : List Nat) (t : Nat) : List Nat := if xJo D t ls = ls.length then ls ++ [t] else ls
def rwD (D : Nat → Nat → Bool) : List Nat → List Nat → List Nat × List Nat
 | [],ls => ([],ls)
 | t :: ts,ls => (xJo D t ls :: (rwD D ts (xQa D ls t)).1,(rwD D ts (xQa D ls t)).2)
theorem xYp (D : Nat → Nat → Bool) : ∀ (ts ls : List Nat),(rwD D ts ls).1.length = ts.length
 | [],_ => rfl
 | t :: ts,ls => by rw [rwD]; simp [xYp D ts]
theorem yAI (D : Nat → Nat → Bool) (ls : List Nat) (t : Nat) : ls.length ≤ (xQa D ls t).length ∧ (xQa D ls t).length ≤ ls.length + 1 := by
 unfold xQa
 split <;> simp
section
variable {M : Ma} {cl : List Nat} {D : Nat → Nat → Bool}
def yEf (M : Ma) (D : Nat → Nat → Bool) : Prop := ∀ s t,s < M.next.length → t < M.next.length → (D s t = true ↔ ¬ Sim M M s t)
theorem yDN (hN : Num M cl) (hD : yEf M D) {s t : Nat} (hs : s < M.next.length) (ht : t < M.next.length) : D s t = true ↔ ¬ cl.getD t 0 = cl.getD s 0 := by
 rw [hD s t hs ht,← hN.iff s t hs ht]
 exact ⟨fun h e => h e.symm,fun h e => h e.symm⟩
theorem xTK (hN : Num M cl) (hD : yEf M D) {t : Nat} (ht : t < M.next.length) : ∀ ls : List Nat,(∀ a ∈ ls,a < M.next.length) → xJo D t ls = pos (cl.getD t 0) (ls.map fun a => cl.getD a 0) ∧ (xJo D t ls = ls.length ↔ cl.getD t 0 ∉ ls.map fun a => cl.getD a 0)
 | [],_ => ⟨rfl,by simp [xJo]⟩
 | a :: l,h => by
  have ha := h a (by simp)
  obtain ⟨h1,h2⟩ := xTK hN hD ht l (fun b hb => h b (by simp [hb]))
  have hc := yDN hN hD ha ht
  rw [xJo,List.map_cons,pos]
  by_cases c : D a t = true
  ·have c' := hc.1 c
   rw [if_pos c,if_neg c',h1]
   refine ⟨rfl,?_⟩
   rw [List.length_cons,List.mem_cons]
   constructor
   ·intro e
    rw [← h1] at e
    rintro (q | q)
    ·exact c' q
    ·exact h2.1 (by omega) q
   ·intro q
    have := h2.2 (fun e => q (.inr e))
    omega
  ·have c' : cl.getD t 0 = cl.getD a 0 := by
    by_cases e : cl.getD t 0 = cl.getD a 0
    ·exact e
    ·exact absurd (hc.2 e) c
   rw [if_neg c,if_pos c']
   refine ⟨rfl,?_⟩
   rw [List.length_cons,List.mem_cons]
   exact ⟨fun e => by omega,fun q => absurd (.inl c') q⟩
theorem xYq {k : Nat} : ∀ {l : List Nat},k ∉ l → pos k l = l.length ∧ pos k (l ++ [k]) = l.length
 | [],_ => ⟨rfl,by simp [pos]⟩
 | a :: l,h => by
  have := xYq (l := l) (fun e => h (List.mem_cons_of_mem _ e))
  have hn : ¬ k = a := fun e => h (by rw [e]; exact List.mem_cons_self)
  constructor
  ·rw [pos,if_neg hn,this.1,List.length_cons]
  ·rw [List.cons_append,pos,if_neg hn,this.2,List.length_cons]
theorem yDO (hN : Num M cl) (hD : yEf M D) {t : Nat} (ht : t < M.next.length) {ls : List Nat} (h : ∀ a ∈ ls,a < M.next.length) : (xQa D ls t).map (fun a => cl.getD a 0) = xFi (ls.map fun a => cl.getD a 0) (cl.getD t 0) ∧ xJo D t ls = pos (cl.getD t 0) (xFi (ls.map fun a => cl.getD a 0) (cl.getD t 0)) ∧ ∀ a ∈ xQa D ls t,a < M.next.length := by
 obtain ⟨h1,h2⟩ := xTK hN hD ht ls h
 unfold xQa xFi
 by_cases c : cl.getD t 0 ∈ ls.map fun a => cl.getD a 0
 ·rw [if_pos c,if_neg (fun e => h2.1 e c)]
  exact ⟨rfl,h1,h⟩
 ·rw [if_neg c,if_pos (h2.2 c)]
  refine ⟨by simp,?_,fun a ha => ?_⟩
  ·rw [(xYq c).2,List.length_map]
   exact h2.2 c
  ·rcases List.mem_append.1 ha with ha | ha
   ·exact h a ha
   ·rw [List.mem_singleton.1 ha]; exact ht
theorem yCg (hN : Num M cl) (hD : yEf M D) : ∀ (ts ls : List Nat),(∀ t ∈ ts,t < M.next.length) → (∀ a ∈ ls,a < M.next.length) →
  (rwD D ts ls).1 = (rwG (ts.map fun t => cl.getD t 0) (ls.map fun a => cl.getD a 0)).1 ∧ (rwD D ts ls).2.map (fun a => cl.getD a 0) = (rwG (ts.map fun t => cl.getD t 0) (ls.map fun a => cl.getD a 0)).2 ∧ ∀ a ∈ (rwD D ts ls).2,a < M.next.length
 | [],ls,_,h => ⟨rfl,rfl,h⟩
 | t :: ts,ls,ht,h => by
  obtain ⟨e1,e2,e3⟩ := yDO hN hD (ht t (by simp)) h
  obtain ⟨k1,k2,k3⟩ := yCg hN hD ts (xQa D ls t) (fun x hx => ht x (by simp [hx])) e3
  rw [rwD,List.map_cons,rwG]
  simp only
  rw [k1,k2,e1,e2]
  exact ⟨rfl,rfl,k3⟩
def rdD (M : Ma) (D : Nat → Nat → Bool) (k : Nat) (st : Mst) : Mst :=
 ((rwD D (M.next.getD (st.1.getD k 0) []) st.1).2,st.2.1 ++ [(rwD D (M.next.getD (st.1.getD k 0) []) st.1).1],st.2.2 ++ [M.emit.getD (st.1.getD k 0) []])
theorem yDP (hV : Vm M) (hN : Num M cl) (hD : yEf M D) {k : Nat} {a b : Mst} (h1 : a.1.map (fun x => cl.getD x 0) = b.1) (h2 : ∀ x ∈ a.1,x < M.next.length) (h3 : a.2 = b.2) (c : k < a.1.length) :
  (rdD M D k a).1.map (fun x => cl.getD x 0) = (xNc M cl k b).1 ∧ (∀ x ∈ (rdD M D k a).1,x < M.next.length) ∧ (rdD M D k a).2 = (xNc M cl k b).2 := by
 have hk := h2 _ (xAh (a := 0) c)
 have hb : b.1.getD k 0 = cl.getD (a.1.getD k 0) 0 := by
  rw [← h1,List.getD_eq_getElem?_getD,List.getElem?_map,List.getElem?_eq_getElem c,List.getD_eq_getElem?_getD (l := a.1),List.getElem?_eq_getElem c]
  rfl
 have hq := yCn hN hk
 rw [← hb] at hq
 have hsim : Sim M M ((spO cl).getD (b.1.getD k 0) 0) (a.1.getD k 0) := (hN.iff _ _ hq.1 hk).1 (hq.2.trans hb)
 have he : M.emit.getD ((spO cl).getD (b.1.getD k 0) 0) [] = M.emit.getD (a.1.getD k 0) [] := xYK hV hV rfl hq.1 hk fun i hi => (hsim.next hi).1
 have hn : (M.next.getD ((spO cl).getD (b.1.getD k 0) 0) []).map (fun t => cl.getD t 0) = (M.next.getD (a.1.getD k 0) []).map fun t => cl.getD t 0 := by
  have l1 := hV.nl hq.1
  have l2 := hV.nl hk
  apply List.ext_getElem (by rw [List.length_map,List.length_map]; omega)
  intro i a' b'
  simp only [List.length_map] at a' b'
  have hi : i < two M.i := by omega
  have h3 := (hN.iff _ _ (hV.nx hq.1 hi) (hV.nx hk hi)).2 (hsim.next hi).2
  unfold nx at h3
  rw [List.getD_eq_getElem?_getD (l := M.next.getD ((spO cl).getD (b.1.getD k 0) 0) []),List.getElem?_eq_getElem a',List.getD_eq_getElem?_getD (l := M.next.getD (a.1.getD k 0) []),List.getElem?_eq_getElem b'] at h3
  simpa using h3
 obtain ⟨r1,r2,r3⟩ := yCg hN hD (M.next.getD (a.1.getD k 0) []) a.1 (fun t ht => hV.rb _ (xAh hk) t ht) h2
 refine ⟨?_,r3,?_⟩
 ·unfold rdD xNc
  simp only
  rw [r2,hn,h1]
 ·unfold rdD xNc
  simp only
  rw [r1,hn,h1,he,h3]
end
theorem xL8 (R : Rec) (F : List AV) (H : Heap) (z : List AV) (es n : Nat) (ps : List (Nat × Arg)) : xAz R F H (.dslice z es n ps) = xDt H (xAa R F H (.dslice z es n ps)) := xBX _ rfl
theorem xEX (z : List AV) (es n : Nat) (ps : List (Nat × Arg)) : xAt (.dslice z es n ps) = false := rfl
theorem xDx (n : Nat) (D : Nat → Nat → Bool) : (xFe n D).length = n := by simp [xFe]
theorem xTL {n t : Nat} {D : Nat → Nat → Bool} (h : t < n) : List.take 1 (List.drop t (xFe n D)) = [.sl false n (xHo n (D t))] := by
 have := xDK (fun s => AV.sl false n (xHo n (D s))) 0 (l := List.range n) (i := t) (by simpa using h)
 rw [xM4 h] at this
 exact this
theorem xYr {D : Nat → Nat → Bool} {t : Nat} {ls : List Nat} {j : Nat} (h : j < ls.length) : xJo D t (ls.drop j) = if D (ls.getD j 0) t = true then xJo D t (ls.drop (j + 1)) + 1 else 0 := by
 rw [xAD (a := 0) h,xJo]
section
variable {M : Ma} {D : Nat → Nat → Bool} {ls : List Nat} {p t : Nat} {s1 s2 s7 s8 s9 s10 s11 : AV} {G : Heap}
set_option maxHeartbeats 1000000 in
theorem yCh (hn : M.next.length < 1099511627) (hl : ls.length < 1099511627) (hls : ∀ a ∈ ls,a < M.next.length) (ht : t < M.next.length) (gp : G[p]? = some (.cells false false (xAA ls))) : ∀ e j,j + e = ls.length →
  L.loop xN4 xZM ⟨xN5 s1 s2 (.sl false M.next.length (xFe M.next.length D)) (.own false p 0 ls.length 1) s7 s8 s9 s10 s11 (.int .i64 (t : Nat)) (.int .i64 (j : Nat)),G⟩ =
   some (.exit 4,⟨xN5 s1 s2 (.sl false M.next.length (xFe M.next.length D)) (.own false p 0 ls.length 1) s7 s8 s9 s10 s11 (.int .i64 (t : Nat)) (.int .i64 ((j + xJo D t (ls.drop j) : Nat) : Nat)),G⟩)
 | 0,j,he => by
  obtain rfl : j = ls.length := by omega
  rw [List.drop_eq_nil_of_le (Nat.le_refl _),xJo,Nat.add_zero,xVK]
  simp (maxSteps := 30000000) (disch := first | assumption | omega | (simp only [WL,AV.isCell,xAB,xDx] <;> omega) | rfl | decide) only [xN3,WB,↓reduceIte,xN6]
 | e + 1,j,he => by
  have hj : j < ls.length := by omega
  have c' : ((j : Nat) : Int) < (ls.length : Nat) := by omega
  have ha := hls _ (xAh (a := 0) hj)
  have ih := yCh hn hl hls ht gp e (j + 1) (by omega)
  rw [xYr hj]
  cases hD : D (ls.getD j 0) t with
  | true =>
   rw [if_pos rfl,show j + (xJo D t (ls.drop (j + 1)) + 1) = j + 1 + xJo D t (ls.drop (j + 1)) by omega]
   rw [xVK]
   simp (maxSteps := 30000000) (disch := first | assumption | omega | (simp only [WL,AV.isCell,xAB,xDx] <;> omega) | rfl | decide) only [xN3,WB,c',↓reduceIte,gp,xTL,xGx,hD,xN6,ih]
  | false =>
   rw [if_neg (by simp),Nat.add_zero,xVK]
   simp (maxSteps := 30000000) (disch := first | assumption | omega | (simp only [WL,AV.isCell,xAB,xDx] <;> omega) | rfl | decide) only [xN3,WB,c',↓reduceIte,gp,xTL,xGx,hD,xN6]
end
structure LI (M : Ma) (G0 : Heap) (p0 : Nat) (ls nr er : List Nat) (p : Nat) (nv ev : AV) (G : Heap) : Prop where
 keep : ∀ b,b < G0.length → b ≠ p0 → G[b]? = G0[b]?
 len : G0.length ≤ G.length
 gp : G[p]? = some (.cells false false (xAA ls))
 hp : p = p0 ∨ G0.length ≤ p
 nl : Lst G0.length G nv (xAA nr)
 el : Lst G0.length G ev (bs er)
 np : ¬ At nv p
 ep : ¬ At ev p
 ne : ∀ b,At nv b → ¬ At ev b
section
variable {M : Ma} {D : Nat → Nat → Bool} {G0 : Heap} {p0 : Nat} {s2 s7 : AV}
abbrev F36 (M : Ma) (D : Nat → Nat → Bool) (s2 s7 : AV) (ls : List Nat) (p k : Nat) (nv ev : AV) (i : Nat) : List AV := xKl (.ptr 0 0) s2 (.sl false M.next.length (xFe M.next.length D)) (.own false p 0 ls.length 1) s7 (.int .i64 (k : Nat)) nv ev (.int .i64 (i : Nat))
theorem yCi (i : Nat) (v : AV) {q n : Nat} {cs : List AV} (hv : (v = .sl true 0 []) ∨ ∃ id o m e,v = .own false id o m e) : xCk (.vptr cs i) n v q = true := by
 rcases hv with rfl | ⟨id,o,m,e,rfl⟩ <;> rfl
theorem xTM {b a n q : Nat} {v : AV} (hv : (v = .sl true 0 []) ∨ ∃ id o m e,v = .own false id o m e ∧ b ≠ id) : xCk (.ptr b a) n v q = true := by
 rcases hv with rfl | ⟨id,o,m,e,rfl,h⟩
 ·rfl
 ·simpa [xCk] using h
theorem Lst.form {B : Nat} {H : Heap} {v : AV} {cs : List AV} (h : Lst B H v cs) : (v = .sl true 0 []) ∨ ∃ id o m e,v = .own false id o m e := by
 rcases h with ⟨_,h⟩ | ⟨id,h,_⟩
 ·exact .inl h
 ·exact .inr ⟨_,_,_,_,h⟩
theorem Lst.form2 {B : Nat} {H : Heap} {v : AV} {cs : List AV} (h : Lst B H v cs) {b : Nat} (hb : ¬ At v b) : (v = .sl true 0 []) ∨ ∃ id o m e,v = .own false id o m e ∧ b ≠ id := by
 rcases h with ⟨_,h⟩ | ⟨id,h,_⟩
 ·exact .inl h
 ·refine .inr ⟨_,_,_,_,h,?_⟩
  rintro rfl
  exact hb ⟨_,_,_,_,h⟩
end
theorem xYs (n : Nat) (H : Heap) (k : IntKind) (x : Int) : dsK n H (some [.int k x]) = some (.sl false n [.int k x],H) := rfl
section
variable {M : Ma} {D : Nat → Nat → Bool} {G0 G : Heap} {p0 p : Nat} {s2 s7 nv ev : AV} {ls nr er : List Nat}
theorem LI.grow (h : LI M G0 p0 ls nr er p nv ev G) (t : Nat) : LI M G0 p0 (ls ++ [t]) nr er G.length nv ev (G.set p .dead ++ [.cells false false (xAA (ls ++ [t]))]) := by
 have hp := xAI h.gp
 have hl := h.len
 have f : ∀ b,b < G.length → b ≠ p → (G.set p Blk.dead ++ [.cells false false (xAA (ls ++ [t]))])[b]? = G[b]? := fun b h1 h2 => by rw [xAZ (by simpa using h1),xAS (fun e => h2 e.symm)]
 refine ⟨fun b h1 h2 => ?_,by simp; omega,by rw [xD3 (by simp)]; rfl,.inr hl,h.nl.other fun b hb => f b (h.nl.inb hb).1 (fun e => h.np (e ▸ hb)),h.el.other fun b hb => f b (h.el.inb hb).1 (fun e => h.ep (e ▸ hb)),fun hb => ?_,fun hb => ?_,h.ne⟩
 ·rw [f b (by omega) (by rcases h.hp with q | q <;> omega),h.keep b h1 h2]
 ·have := (h.nl.inb hb).1
  omega
 ·have := (h.el.inb hb).1
  omega
theorem LI.push (h : LI M G0 p0 ls nr er p nv ev G) (j x : Nat) (hn : nr.length < 1000000) (he : er.length < 1000000) :
  ∃ nv' G1 ev' G2,xWS false 1 8 G nv (some (1,[.int .i64 (j : Nat)])) = some (nv',G1) ∧ xWS false 1 1 G1 ev (some (1,[.int .u8 (x : Nat)])) = some (ev',G2) ∧ LI M G0 p0 ls (nr ++ [j]) (er ++ [x]) p nv' ev' G2 := by
 have hp := xAI h.gp
 have hl := h.len
 have l1 : (xAA nr).length = nr.length := xAy nr
 have l2 : (bs er).length = er.length := by simp [bs]
 obtain ⟨nv',G1,a1,a2,a3,a4,a5,i1,n1,a6⟩ := h.nl.push2 (.int .i64 (j : Nat)) (bytes := 8) (by omega) (by omega) hl
 have e1 : Lst G0.length G1 ev (bs er) := h.el.other fun b hb => a4 b (h.el.inb hb).1 (fun q => h.ne b q hb)
 obtain ⟨ev',G2,b1,b2,b3,b4,b5,i2,n2,b6⟩ := e1.push2 (.int .u8 (x : Nat)) (bytes := 1) (by omega) (by omega) (by have := a3.1; omega)
 rw [is64_snoc'] at a2
 have hb2 : bs er ++ [.int .u8 (x : Nat)] = bs (er ++ [x]) := by simp [bs]
 rw [hb2] at b2
 have g3 := a3.1
 have g4 := b3.1
 have hlt : G.length < G1.length := by
  have := (a2.inb (b := i1) ⟨_,_,_,_,a6⟩).1
  have := a5 i1 ⟨_,_,_,_,a6⟩
  omega
 refine ⟨nv',G1,ev',G2,a1,b1,⟨fun b h1 h2 => ?_,by omega,?_,h.hp,?_,b2,fun hb => ?_,fun hb => ?_,fun b hb hb' => ?_⟩⟩
 ·rw [b3.2 b h1,a3.2 b h1,h.keep b h1 h2]
 ·rw [b4 p (by omega) h.ep,a4 p hp h.np,h.gp]
 ·refine a2.other fun b hb => b4 b (a2.inb hb).1 fun q => ?_
  have := a5 b hb
  have := (h.el.inb q).1
  omega
 ·have := a5 p hb
  omega
 ·have := b5 p hb
  omega
 ·have := a5 b hb
  have := b5 b hb'
  omega
set_option maxHeartbeats 4000000 in
theorem yAJ (hV : Vm M) {k i : Nat} (h0 : G0[0]? = some (.cells false false M.cells)) (hp0 : p0 ≠ 0) (h : LI M G0 p0 ls nr er p nv ev G) (hls : ∀ a ∈ ls,a < M.next.length) (hl : ls.length < 1000000) (hnr : nr.length < 1000000) (her : er.length < 1000000) (hk : k < ls.length) (hi : i < two M.i) :
  ∃ p' nv' ev' G',L.loop xGM xQP ⟨F36 M D s2 s7 ls p k nv ev i,G⟩ = L.loop xGM xQP ⟨F36 M D s2 s7 (xQa D ls (nx M (ls.getD k 0) i)) p' k nv' ev' (i + 1),G'⟩ ∧
   LI M G0 p0 (xQa D ls (nx M (ls.getD k 0) i)) (nr ++ [xJo D (nx M (ls.getD k 0) i) ls]) (er ++ [em M (ls.getD k 0) i]) p' nv' ev' G' := by
 have hs := hls _ (xAh (a := 0) hk)
 have hrs := hV.nl hs
 have hws := hV.wl' hs
 have hel := hV.el
 have hn9 := hV.n9
 have hes : ls.getD k 0 < M.emit.length := by omega
 have h64 : two M.i ≤ 64 := by have := xCw (show M.i ≤ 6 by have := hV.io; omega); have : two 6 = 64 := rfl; omega
 have c' : ((i : Nat) : Int) < (two M.i : Nat) := by omega
 have ht := hV.nx hs hi
 have gp := h.gp
 have g0 : G[0]? = some (.cells false false M.cells) := by rw [h.keep 0 (xAI h0) (fun e => hp0 e.symm),h0]
 have hsr := yCh (D := D) (s1 := .ptr 0 0) (s2 := s2) (s7 := s7) (s8 := .int .i64 (k : Nat)) (s9 := nv) (s10 := ev) (s11 := .int .i64 (i : Nat)) (t := nx M (ls.getD k 0) i) (by omega) (by omega) hls ht gp ls.length 0 (by omega)
 rw [List.drop_zero,Nat.zero_add] at hsr
 simp only [Int.natCast_zero] at hsr
 have hge := xAI gp
 have hpne : p ≠ 0 := by have := xAI h0; rcases h.hp with q | q <;> omega
 have htk : List.take ls.length (xAA ls) = xAA ls := List.take_of_length_le (by rw [xAy]; exact Nat.le_refl _)
 have hsn : ∀ t : Nat,xAA ls ++ [.int .i64 (t : Nat)] = xAA (ls ++ [t]) := fun t => is64_snoc' ls t
 unfold xQa
 by_cases c : xJo D (nx M (ls.getD k 0) i) ls = ls.length
 ·rw [if_pos c]
  obtain ⟨nv',G1,ev',G2,a1,a2,a3⟩ := (h.grow (nx M (ls.getD k 0) i)).push (xJo D (nx M (ls.getD k 0) i) ls) (em M (ls.getD k 0) i) hnr her
  refine ⟨G.length,nv',ev',G2,?_,a3⟩
  have gl := h.grow (nx M (ls.getD k 0) i)
  have d1 : xCk (.ptr 0 4) 1 nv 0 = true := xTM (h.nl.form2 (fun e => by have := (h.nl.inb e).2; have := xAI h0; omega))
  have d2 : xCk (.ptr G.length k) 1 nv 0 = true := xTM (h.nl.form2 (fun e => by have := (h.nl.inb e).1; omega))
  have d3 : ∀ cs i',xCk (.vptr cs i') 1 nv 0 = true := fun cs i' => yCi i' nv h.nl.form
  rw [c] at hsr a1
  have hgk : (ls ++ [nx M (ls.getD k 0) i]).getD k 0 = ls.getD k 0 := xAQ _ _ _ hk
  have hkl : k < (ls ++ [nx M (ls.getD k 0) i]).length := by rw [List.length_append]; omega
  unfold em at a2
  simp only [nx] at hsr a1 a2 hgk hkl ⊢
  generalize hss : ls.getD k 0 = s at *
  generalize htt : (M.next.getD s []).getD i 0 = t at *
  unfold Ma.cells at g0
  rw [xVL]
  simp (maxSteps := 30000000) (disch := first | assumption | omega | (simp only [WL,AV.isCell,xAB,xDx] <;> omega) | rfl | decide) only [xN7,WB,g0,xAc,gp,hss,xBU,rowI,hrs,c',↓reduceIte,htt,xN6,hsr,AV.cells,AV.isCell,Nat.reduceBEq,htk,hsn,WP,xEX,xL8,xF2,xYs,xAZ,xAS,xD3,hgk,xCf,rowB,hws,a1,a2,xCk,xN8]
  have hfr : F36 M D s2 s7 (ls ++ [t]) G.length k nv' ev' (i + 1) = xKl (.ptr 0 0) s2 (.sl false M.next.length (xFe M.next.length D)) (.own false G.length 0 (ls.length + 1) 1) s7 (.int .i64 (k : Nat)) nv' ev' (.int .i64 ((i + 1 : Nat) : Nat)) := by
   unfold F36
   rw [List.length_append]
   rfl
  rw [hfr]
  refine (if_pos ?_).trans rfl
  simp only [Bool.and_eq_true]
  exact ⟨d1,d2,d3 _ _,d3 _ _⟩
 ·rw [if_neg c]
  obtain ⟨nv',G1,ev',G2,a1,a2,a3⟩ := h.push (xJo D (nx M (ls.getD k 0) i) ls) (em M (ls.getD k 0) i) hnr her
  refine ⟨p,nv',ev',G2,?_,a3⟩
  have hle := xYo D (nx M (ls.getD k 0) i) ls
  have d1 : xCk (.ptr 0 4) 1 nv 0 = true := xTM (h.nl.form2 (fun e => by have := (h.nl.inb e).2; have := xAI h0; omega))
  have d2 : xCk (.ptr p k) 1 nv 0 = true := xTM (h.nl.form2 h.np)
  have d3 : ∀ cs i',xCk (.vptr cs i') 1 nv 0 = true := fun cs i' => yCi i' nv h.nl.form
  have c2 : ¬ ((xJo D (nx M (ls.getD k 0) i) ls : Nat) : Int) = (ls.length : Nat) := by omega
  unfold em at a2
  simp only [nx] at hsr a1 a2 c2 ⊢
  generalize hss : ls.getD k 0 = s at *
  generalize htt : (M.next.getD s []).getD i 0 = t at *
  generalize xJo D t ls = j at *
  unfold Ma.cells at g0
  rw [xVL]
  simp (maxSteps := 30000000) (disch := first | assumption | omega | (simp only [WL,AV.isCell,xAB,xDx] <;> omega) | rfl | decide) only [xN7,WB,g0,xAc,gp,hss,xBU,rowI,hrs,c',↓reduceIte,htt,xN6,hsr,c2,WP,xEX,xL8,xF2,AV.cells,AV.isCell,xYs,xCf,rowB,hws,a1,a2,xCk,xN8]
  refine (if_pos ?_).trans rfl
  simp only [Bool.and_eq_true]
  exact ⟨d1,d2,d3 _ _,d3 _ _⟩
end
section
variable {M : Ma} {D : Nat → Nat → Bool} {G0 : Heap} {p0 : Nat} {s2 s7 : AV}
theorem yAK {ls : List Nat} {t n : Nat} (h : ∀ a ∈ ls,a < n) (ht : t < n) : ∀ a ∈ xQa D ls t,a < n := by
 unfold xQa
 split
 ·intro a ha
  rcases List.mem_append.1 ha with ha | ha
  ·exact h a ha
  ·rw [List.mem_singleton.1 ha]; exact ht
 ·exact h
theorem xYt {ls : List Nat} {t k : Nat} (hk : k < ls.length) : (xQa D ls t).getD k 0 = ls.getD k 0 := by
 unfold xQa
 split
 ·exact xAQ _ _ _ hk
 ·rfl
set_option maxHeartbeats 1000000 in
theorem yCj (hV : Vm M) {k : Nat} (h0 : G0[0]? = some (.cells false false M.cells)) (hp0 : p0 ≠ 0) : ∀ e i (ls nr er : List Nat) (p : Nat) (nv ev : AV) (G : Heap),i + e = two M.i → LI M G0 p0 ls nr er p nv ev G → (∀ a ∈ ls,a < M.next.length) → ls.length + e < 1000000 → nr.length = i → er.length = i → k < ls.length →
  ∃ p' nv' ev' G',L.loop xGM xQP ⟨F36 M D s2 s7 ls p k nv ev i,G⟩ = some (.exit 2,⟨F36 M D s2 s7 (rwD D ((M.next.getD (ls.getD k 0) []).drop i) ls).2 p' k nv' ev' (two M.i),G'⟩) ∧
   LI M G0 p0 (rwD D ((M.next.getD (ls.getD k 0) []).drop i) ls).2 (nr ++ (rwD D ((M.next.getD (ls.getD k 0) []).drop i) ls).1) (er ++ (M.emit.getD (ls.getD k 0) []).drop i) p' nv' ev' G'
 | 0,i,ls,nr,er,p,nv,ev,G,he,h,hls,hl,hnr,her,hk => by
  obtain rfl : i = two M.i := by omega
  have hs := hls _ (xAh (a := 0) hk)
  have hrs := hV.nl hs
  have hws := hV.wl' hs
  have g0 : G[0]? = some (.cells false false M.cells) := by rw [h.keep 0 (xAI h0) (fun e => hp0 e.symm),h0]
  have gp := h.gp
  rw [List.drop_eq_nil_of_le (by omega),List.drop_eq_nil_of_le (by omega)]
  refine ⟨p,nv,ev,G,?_,by simpa [rwD] using h⟩
  unfold Ma.cells at g0
  rw [rwD]
  generalize hss : ls.getD k 0 = s at *
  have c' : ¬ ((two M.i : Nat) : Int) < (two M.i : Nat) := by omega
  rw [xVL]
  simp (maxSteps := 30000000) (disch := first | assumption | omega | (simp only [WL,AV.isCell,xAB,xDx] <;> omega) | rfl | decide) only [xN7,WB,g0,xAc,gp,hss,xBU,rowI,hrs,c',↓reduceIte,xN8]
 | e + 1,i,ls,nr,er,p,nv,ev,G,he,h,hls,hl,hnr,her,hk => by
  have hi : i < two M.i := by omega
  have hs := hls _ (xAh (a := 0) hk)
  have hrs := hV.nl hs
  have hws := hV.wl' hs
  have ht := hV.nx hs hi
  have h64 : two M.i ≤ 64 := by have := xCw (show M.i ≤ 6 by have := hV.io; omega); have : two 6 = 64 := rfl; omega
  obtain ⟨p1,nv1,ev1,G1,a1,a2⟩ := yAJ (D := D) (s2 := s2) (s7 := s7) hV h0 hp0 h hls (by omega) (by omega) (by omega) hk hi
  have hle := yAI D ls (nx M (ls.getD k 0) i)
  have hk1 : k < (xQa D ls (nx M (ls.getD k 0) i)).length := by omega
  obtain ⟨p',nv',ev',G',b1,b2⟩ := yCj hV h0 hp0 e (i + 1) _ _ _ p1 nv1 ev1 G1 (by omega) a2 (yAK hls ht) (by omega) (by simp [hnr]) (by simp [her]) hk1
  rw [xYt hk] at b1 b2
  have d1 : (M.next.getD (ls.getD k 0) []).drop i = nx M (ls.getD k 0) i :: (M.next.getD (ls.getD k 0) []).drop (i + 1) := xAD (a := 0) (by omega)
  have d2 : (M.emit.getD (ls.getD k 0) []).drop i = em M (ls.getD k 0) i :: (M.emit.getD (ls.getD k 0) []).drop (i + 1) := xAD (a := 0) (by omega)
  rw [d1,d2,rwD]
  refine ⟨p',nv',ev',G',?_,?_⟩
  ·rw [a1,b1]
  ·rw [List.append_assoc,List.append_assoc] at b2
   exact b2
end
structure RI6 (M : Ma) (G : Heap) (a : Mst) (p pn pe : Nat) : Prop where
 g0 : G[0]? = some (.cells false false M.cells)
 g1 : G[1]? = some (.cells false false [.int .i64 0,.int .i64 0,.int .i64 0,.sl true 0 [],.sl true 0 []])
 gp : G[p]? = some (.cells false false (xAA a.1))
 hp : 2 ≤ p ∧ p ≠ 3
 out : (a.2.1 = [] ∧ a.2.2 = [] ∧ G[3]? = some (.cells false false [.int .i64 (M.i : Nat),.int .i64 (M.o : Nat),.int .i64 0,.sl true 0 [],.sl true 0 []])) ∨
  (4 ≤ pn ∧ 4 ≤ pe ∧ pn ≠ pe ∧ pn ≠ p ∧ pe ≠ p ∧ G[3]? = some (.cells false false [.int .i64 (M.i : Nat),.int .i64 (M.o : Nat),.int .i64 0,.own false pn 0 a.2.1.length 1,.own false pe 0 a.2.2.length 1]) ∧ G[pn]? = some (.cells false false (a.2.1.map rowI)) ∧ G[pe]? = some (.cells false false (a.2.2.map rowB)))
section
variable {M : Ma} {D : Nat → Nat → Bool}
abbrev yGh (M : Ma) (D : Nat → Nat → Bool) (ls : List Nat) (p k : Nat) : List AV := xOa (.ptr 0 0) (.ptr 1 0) (.sl false M.next.length (xFe M.next.length D)) (.own false p 0 ls.length 1) (.ptr 3 0) (.int .i64 (k : Nat))
set_option maxHeartbeats 4000000 in
theorem yDQ (hV : Vm M) {k p pn pe : Nat} {a : Mst} {G : Heap} (h : RI6 M G a p pn pe) (hls : ∀ x ∈ a.1,x < M.next.length) (hl : a.1.length ≤ 4096) (hn : a.2.1.length ≤ 4096) (he : a.2.2.length ≤ 4096) (hk : k < a.1.length) :
  ∃ G' p' pn' pe',L.loop xGN xQQ ⟨yGh M D a.1 p k,G⟩ = L.loop xGN xQQ ⟨yGh M D (rdD M D k a).1 p' (k + 1),G'⟩ ∧ RI6 M G' (rdD M D k a) p' pn' pe' := by
 obtain ⟨g0,g1,gp,hp,ho⟩ := h
 have hs := hls _ (xAh (a := 0) hk)
 have hrs := hV.nl hs
 have hws := hV.wl' hs
 have h64 : two M.i ≤ 64 := by have := xCw (show M.i ≤ 6 by have := hV.io; omega); have : two 6 = 64 := rfl; omega
 have h1 := xGw M.i
 have hG := xAI gp
 have g3l : 3 < G.length := by rcases ho with ⟨_,_,q⟩ | ⟨_,_,_,_,_,q,_⟩ <;> exact xAI q
 obtain ⟨p',nv',ev',G1,a1,a2⟩ := yCj (D := D) (s2 := .ptr 1 0) (s7 := .ptr 3 0) hV (k := k) (G0 := G) (p0 := p) g0 (by omega) (two M.i) 0 a.1 [] [] p (.sl true 0 []) (.sl true 0 []) G (by omega)
  ⟨fun _ _ _ => rfl,Nat.le_refl _,gp,.inl rfl,.nil _ _,.nil _ _,fun q => (by obtain ⟨_,_,_,_,e⟩ := q; cases e),fun q => (by obtain ⟨_,_,_,_,e⟩ := q; cases e),fun b q => (by obtain ⟨_,_,_,_,e⟩ := q; cases e)⟩ hls (by omega) rfl rfl hk
 rw [List.drop_zero,List.drop_zero,List.nil_append,List.nil_append] at a2
 rw [List.drop_zero] at a1
 have c' : ((k : Nat) : Int) < (a.1.length : Nat) := by omega
 have hrl := xYp D (M.next.getD (a.1.getD k 0) []) a.1
 unfold rdD
 generalize hss : a.1.getD k 0 = s at *
 generalize hrr : rwD D (M.next.getD s []) a.1 = rr at *
 obtain ⟨nr,ls'⟩ := rr
 generalize hee : M.emit.getD s [] = er at *
 simp only at a1 a2 hrl ⊢
 rw [hrs] at hrl
 obtain ⟨q1,hnv,b1,b2⟩ : ∃ q,nv' = .own false q 0 (two M.i) 1 ∧ G1[q]? = some (.cells false false (xAA nr)) ∧ G.length ≤ q := by
  rcases a2.nl with ⟨e0,_⟩ | ⟨id,e1,e2,e3,_⟩
  ·have := congrArg List.length e0
   rw [xAy] at this
   simp at this
   rw [this] at hrl
   simp at hrl
   omega
  ·exact ⟨id,by rw [e1,xAy,hrl],e2,e3⟩
 obtain ⟨q2,hev,c1,c2⟩ : ∃ q,ev' = .own false q 0 (two M.i) 1 ∧ G1[q]? = some (.cells false false (bs er)) ∧ G.length ≤ q := by
  rcases a2.el with ⟨e0,_⟩ | ⟨id,e1,e2,e3,_⟩
  ·have := congrArg List.length e0
   rw [xAJ] at this
   simp at this
   rw [this] at hws
   simp at hws
   omega
  ·exact ⟨id,by rw [e1,xAJ,hws],e2,e3⟩
 have hqq : q1 ≠ q2 := fun e => a2.ne q1 ⟨_,_,_,_,hnv⟩ ⟨_,_,_,_,by rw [hev,e]⟩
 have hpq1 : p' ≠ q1 := fun e => a2.np ⟨_,_,_,_,by rw [hnv,e]⟩
 have hpq2 : p' ≠ q2 := fun e => a2.ep ⟨_,_,_,_,by rw [hev,e]⟩
 subst hnv hev
 obtain ⟨X1,hX1⟩ : ∃ X,List.modify G1 q1 xBl = X := ⟨_,rfl⟩
 obtain ⟨X,hX⟩ : ∃ Y,List.modify X1 q2 xBl = Y := ⟨_,rfl⟩
 have xl : X.length = G1.length := by rw [← hX,List.length_modify,← hX1,List.length_modify]
 have xl1 : X1.length = G1.length := by rw [← hX1,List.length_modify]
 have x1k : ∀ b,b ≠ q1 → X1[b]? = G1[b]? := fun b h => by rw [← hX1]; exact yG0 (fun e => h e.symm)
 have xk : ∀ b,b ≠ q1 → b ≠ q2 → X[b]? = G1[b]? := fun b h h' => by rw [← hX,yG0 (fun e => h' e.symm),x1k b h]
 have c3 : X1[q2]? = some (.cells false false (bs er)) := by rw [x1k q2 (fun e => hqq e.symm),c1]
 have keep : ∀ b,b < G.length → b ≠ p → X[b]? = G[b]? := fun b h h' => by rw [xk b (by omega) (by omega),a2.keep b h h']
 have hgl := a2.len
 have f0 : X[0]? = some (.cells false false M.cells) := by rw [keep 0 (by omega) (by omega),g0]
 have f1 : X[1]? = some (.cells false false [.int .i64 0,.int .i64 0,.int .i64 0,.sl true 0 [],.sl true 0 []]) := by rw [keep 1 (by omega) (by omega),g1]
 have fp : X[p']? = some (.cells false false (xAA ls')) := by rw [xk p' hpq1 hpq2,a2.gp]
 have hp' : 2 ≤ p' ∧ p' ≠ 3 := by rcases a2.hp with q | q <;> omega
 have hpl := xAI fp
 have hlen1 : (xAA nr).length = two M.i := by rw [xAy,hrl]
 have hlen2 : (bs er).length = two M.i := by rw [xAJ,hws]
 have t1 : List.take (two M.i) (xAA nr) = xAA nr := List.take_of_length_le (by omega)
 have t2 : List.take (two M.i) (bs er) = bs er := List.take_of_length_le (by omega)
 have hd1 : [AV.sl false (two M.i) (xAA nr)].all xAM = true := by simp [xAM,xMI]
 have hd2 : [AV.sl false (two M.i) (bs er)].all xAM = true := by simp [xAM,xWi]
 change L.loop xGM xQP ⟨xKl (.ptr 0 0) (.ptr 1 0) (.sl false M.next.length (xFe M.next.length D)) (.own false p 0 a.1.length 1) (.ptr 3 0) (.int .i64 (k : Nat)) (.sl true 0 []) (.sl true 0 []) (.int .i64 0),G⟩ = _ at a1
 rcases ho with ⟨o1,o2,o3⟩ | ⟨o1,o2,o3,o4,o5,o6,o7,o8⟩
 ·have f3 := (keep 3 (by omega) (by omega)).trans o3
  refine ⟨X.set 3 (.cells false false [.int .i64 (M.i : Nat),.int .i64 (M.o : Nat),.int .i64 0,.own false G1.length 0 1 1,.own false (G1.length + 1) 0 1 1]) ++ [.cells false false [rowI nr],.cells false false [rowB er]],p',G1.length,G1.length + 1,?_,?_⟩
  ·rw [xVM]
   simp (maxSteps := 30000000) (disch := first | assumption | omega | (simp only [WL,AV.isCell] <;> omega) | rfl | decide) only [xN9,WB,c',↓reduceIte,xN8,a1,xAO,b1,t1,xAx,hX1,c3,t2,hX,WP,f3,xF7,xQj,xF2,AV.cells,AV.isCell,xTN,Nat.reduceBEq,xl,xAZ,Nat.reduceAdd,xNg,xCt,List.set_set,xCk,xRF,rowI,hrl,rowB,hws]
  ·rw [o1,o2]
   refine ⟨by rw [xAZ (by simp; omega),xAS (by omega),f0],by rw [xAZ (by simp; omega),xAS (by omega),f1],by rw [xAZ (by simp; omega),xAS (by omega),fp],hp',.inr ⟨by omega,by omega,by omega,by omega,by omega,?_,?_,?_⟩⟩
   ·rw [xAZ (by simp; omega),xCt (by omega)]; rfl
   ·rw [xD3 (by simp; omega)]; rfl
   ·rw [xEO (by simp; omega)]; rfl
 ·have z7 := xAI o7
  have z8 := xAI o8
  have f3 := (keep 3 (by omega) (by omega)).trans o6
  have fn := (keep pn (by omega) o4).trans o7
  have fe := (keep pe (by omega) o5).trans o8
  have tn : List.take a.2.1.length (a.2.1.map rowI) = a.2.1.map rowI := List.take_of_length_le (by simp)
  have te : List.take a.2.2.length (a.2.2.map rowB) = a.2.2.map rowB := List.take_of_length_le (by simp)
  have b3 : (3 != pn) = true := by simp; omega
  have hpn' : p' ≠ pn := by rcases a2.hp with q | q <;> omega
  have hpe' : p' ≠ pe := by rcases a2.hp with q | q <;> omega
  refine ⟨((X.set pn .dead).set pe .dead).set 3 (.cells false false [.int .i64 (M.i : Nat),.int .i64 (M.o : Nat),.int .i64 0,.own false G1.length 0 (a.2.1.length + 1) 1,.own false (G1.length + 1) 0 (a.2.2.length + 1) 1]) ++ [.cells false false (a.2.1.map rowI ++ [rowI nr]),.cells false false (a.2.2.map rowB ++ [rowB er])],p',G1.length,G1.length + 1,?_,?_⟩
  ·rw [xVM]
   simp (maxSteps := 30000000) (disch := first | assumption | omega | (simp only [WL,AV.isCell] <;> omega) | rfl | decide) only [xN9,WB,c',↓reduceIte,xN8,a1,xAO,b1,t1,xAx,hX1,c3,t2,hX,WP,f3,xF7,xQj,xF2,AV.cells,AV.isCell,xTN,fn,Nat.reduceBEq,xl,tn,xAZ,xAS,fe,xNg,te,Nat.reduceAdd,xCt,List.set_set,xCk,b3,xRF,rowI,hrl,rowB,hws]
  ·refine ⟨by rw [xAZ (by simp; omega),xAS (by omega),xAS (by omega),xAS (by omega),f0],by rw [xAZ (by simp; omega),xAS (by omega),xAS (by omega),xAS (by omega),f1],by rw [xAZ (by simp; omega),xAS (by omega),xAS (by omega),xAS (by omega),fp],hp',.inr ⟨by omega,by omega,by omega,by omega,by omega,?_,?_,?_⟩⟩
   ·rw [xAZ (by simp; omega),xCt (by simp; omega),List.length_append,List.length_append]; rfl
   ·rw [xD3 (by simp; omega),List.map_append]; rfl
   ·rw [xEO (by simp; omega),List.map_append]; rfl
end
section
variable {M : Ma} {D : Nat → Nat → Bool} {cl : List Nat}
theorem yFJ (hV : Vm M) (hN : Num M cl) (hD : yEf M D) : ∀ (e k : Nat) (a b : Mst) (p pn pe : Nat) (G : Heap),OI M cl k b → a.1.map (fun x => cl.getD x 0) = b.1 → (∀ x ∈ a.1,x < M.next.length) → a.2 = b.2 → RI6 M G a p pn pe → M.next.length < e + k →
  ∃ F' G' a' p' pn' pe',L.loop xGN xQQ ⟨yGh M D a.1 p k,G⟩ = some (.exit 0,⟨F',G'⟩) ∧ F' = yGh M D a'.1 p' a'.1.length ∧ RI6 M G' a' p' pn' pe' ∧ a'.2 = (yAS M cl e k b).2
 | 0,k,a,b,p,pn,pe,G,h,h1,h2,h3,hR,he => by
  have := h.len hN
  have := h.le
  omega
 | e + 1,k,a,b,p,pn,pe,G,h,h1,h2,h3,hR,he => by
  have hlen := h.len hN
  have hn9 := hV.n9
  have hle := h.le
  have hl : a.1.length = b.1.length := by rw [← h1,List.length_map]
  rw [yAS]
  by_cases c : k < a.1.length
  ·rw [if_pos (by omega)]
   obtain ⟨r1,r2,r3⟩ := yDP hV hN hD h1 h2 h3 c
   have n1 : a.2.1.length = k := by rw [h3]; exact h.l1
   have n2 : a.2.2.length = k := by rw [h3]; exact h.l2
   obtain ⟨G',p',pn',pe',e1,e2⟩ := yDQ (D := D) hV hR h2 (by omega) (by omega) (by omega) c
   obtain ⟨F',G2,a',p2,pn2,pe2,f1,f2⟩ := yFJ hV hN hD e (k + 1) _ _ p' pn' pe' G' (h.step hV hN (by omega)) r1 r2 r3 e2 (by omega)
   exact ⟨F',G2,a',p2,pn2,pe2,by rw [e1,f1],f2⟩
  ·rw [if_neg (by omega)]
   obtain rfl : k = a.1.length := by omega
   refine ⟨_,G,a,p,pn,pe,?_,rfl,hR,h3⟩
   have c' : ¬ ((a.1.length : Nat) : Int) < (a.1.length : Nat) := by omega
   rw [xVM]
   simp (maxSteps := 30000000) (disch := first | assumption | omega | (simp only [WL,AV.isCell] <;> omega) | rfl | decide) only [xN9,WB,c',↓reduceIte,xRF]
set_option maxHeartbeats 2000000 in
theorem yG7 (hV : Vm M) (hN : Num M cl) : L.pcall 36 [M.av] = some (.tup [(xEP M cl).av,.int .i64 0]) := by
 have hc := xDw hV
 have hn9 := hV.n9
 obtain ⟨D,hap,hD⟩ := yDM hV
 obtain ⟨F',G',a',p',pn,pe,e1,e2,e3,e4⟩ := yFJ hV hN hD (M.next.length + 1) 0 ([M.s],[],[]) ([cl.getD M.s 0],[],[]) 2 0 0
  [.cells false false M.cells,.cells false false [.int .i64 0,.int .i64 0,.int .i64 0,.sl true 0 [],.sl true 0 []],.cells false false (xAA [M.s]),.cells false false [.int .i64 (M.i : Nat),.int .i64 (M.o : Nat),.int .i64 0,.sl true 0 [],.sl true 0 []]]
  (OI.start hV) rfl (fun x hx => by rw [List.mem_singleton.1 hx]; exact hV.s) rfl ⟨rfl,rfl,rfl,⟨by omega,by omega⟩,.inl ⟨rfl,rfl,rfl⟩⟩ (by omega)
 subst e2
 have hoi := xRc hV hN
 obtain ⟨g0,g1,gp,hp,ho⟩ := e3
 have e5 : a'.2.1 = (xEP M cl).next := by rw [e4]; rfl
 have e6 : a'.2.2 = (xEP M cl).emit := by rw [e4]; rfl
 rcases ho with ⟨o1,_⟩ | ⟨o1,o2,o3,o4,o5,o6,o7,o8⟩
 ·have l1 : (xNd M cl).2.1.length = (xNd M cl).1.length := hoi.l1
  have l2 := hoi.pos
  have : (xNd M cl).2.1 = [] := by
   have : (xEP M cl).next = [] := by rw [← e5,o1]
   exact this
  rw [this] at l1
  simp at l1
  omega
 ·rw [e5,e6] at o6
  rw [e5] at o7
  rw [e6] at o8
  unfold Ma.av at hc hap ⊢
  unfold Ma.cells at hc hap e1 ⊢
  change L.loop xGN xQQ ⟨xOa (.ptr 0 0) (.ptr 1 0) (.sl false M.next.length (xFe M.next.length D)) (.own false 2 0 1 1) (.ptr 3 0) (.int .i64 0),[.cells false false [.int .i64 (M.i : Nat),.int .i64 (M.o : Nat),.int .i64 (M.s : Nat),.sl false M.next.length (M.next.map rowI),.sl false M.emit.length (M.emit.map rowB)],.cells false false [.int .i64 0,.int .i64 0,.int .i64 0,.sl true 0 [],.sl true 0 []],.cells false false [.int .i64 (M.s : Nat)],.cells false false [.int .i64 (M.i : Nat),.int .i64 (M.o : Nat),.int .i64 0,.sl true 0 [],.sl true 0 []]]⟩ = _ at e1
  have hg1 := xAI g1
  have w1 : ∀ b,(G'.set 1 b)[pn]? = some (.cells false false ((xEP M cl).next.map rowI)) := fun b => by rw [xAS (by omega),o7]
  have w2 : ∀ b,(G'.set 1 b)[pe]? = some (.cells false false ((xEP M cl).emit.map rowB)) := fun b => by rw [xAS (by omega),o8]
  rw [yHo,a36,xAf]
  simp (maxSteps := 30000000) (disch := first | assumption | omega | (simp only [WL,AV.isCell] <;> omega) | rfl | decide) only [WB,Nat.reduceSub,AV.cells,AV.isCell,↓reduceIte,hc,xBL,xAF,hap,Nat.reduceAdd,Nat.reduceLeDiff,xRF,e1,o6,g1,xCt,xAx,w1,yAT,xTX,w2,xQk]
  rfl
set_option maxHeartbeats 1000000 in
theorem xYu {m : Mf} (hS : Sm m) (h : xEI m ≠ 0) : L.pcall 36 [m.av] = some (.tup [.agg [.int .i64 0,.int .i64 0,.int .i64 0,.sl true 0 [],.sl true 0 []],.int .i64 (xEI m)]) := by
 have hc := xJm hS
 unfold Mf.av at hc ⊢
 unfold Mf.cells at hc ⊢
 generalize xEI m = e at *
 rw [yHo,a36,xAf]
 simp (maxSteps := 30000000) (disch := first | assumption | omega | (simp only [WL,AV.isCell] <;> omega) | rfl | decide) only [WB,Nat.reduceSub,AV.cells,AV.isCell,↓reduceIte,hc,xBL,xAF,h,Nat.reduceAdd]
end
end Go.Abs.Mealy
