/- TreeautExamples: lists of automata. -/
import Derived.Test.YtijmhicopfphnaaDoorAMM
import Derived.Test.YtijmhicopfphnaaDoorAMR
namespace Go.Abs.Tree
open Go Go.Abs
set_option linter.unusedSimpArgs false
set_option linter.unusedVariables false
abbrev yFX (n : Aut) : List AV := n.cells
def xMq (l : List Aut) : List AV := rows yFX l
theorem xKy (l : List Aut) : (xMq l).length = l.length * 5 := xLW (enc := yFX) (k := 5) (fun _ => rfl) l
theorem xUH (a b : List Aut) : xMq a ++ xMq b = xMq (a ++ b) := xKA yFX a b
def a0 : Aut := ⟨0,0,true,[],true,[],true,[]⟩
theorem xXX {l : List Aut} {i : Nat} (h : i < l.length) : List.take 5 (List.drop (i * 5) (xMq l)) = (l.getD i a0).cells := by
 unfold xMq
 rw [xLi (enc := yFX) (k := 5) (fun _ => rfl),List.drop_eq_getElem_cons h]
 have : l.getD i a0 = l[i] := by simp [List.getD,List.getElem?_eq_getElem h]
 rw [this]
 rfl
theorem yAC (d : Nat) (H : Heap) (l : List Aut) : (xMq l).mapM (frz d H) = some (xMq l) := by
 induction l with
 | nil => rfl
 | cons e l ih =>
  have : xMq (e :: l) = .int .i64 e.vars :: .int .i64 e.states :: iw e.z1 e.st :: iw e.z2 e.fi :: .sl e.z3 e.rl.length (rls e.rl) :: xMq l := rfl
  rw [this]
  have hs : ∀ z n cs,frz d H (.sl z n cs) = some (.sl z n cs) := fun z n cs => by cases d <;> rfl
  simp only [List.mapM_cons,xBQ,hs,ih]
  rfl
theorem yAD (d : Nat) (H : Heap) (l : List Aut) : (xMq l).flatMap (bor d H) = [] := by
 induction l with
 | nil => rfl
 | cons e l ih =>
  have : xMq (e :: l) = .int .i64 e.vars :: .int .i64 e.states :: iw e.z1 e.st :: iw e.z2 e.fi :: .sl e.z3 e.rl.length (rls e.rl) :: xMq l := rfl
  rw [this]
  simp only [List.flatMap_cons,ih]
  cases d <;> rfl
def xMR (n : Aut) : Prop := ∀ e ∈ n.rl,e.p < 256 ∧ e.n < 256
def yG9 (G : Heap) (v : AV) (l : List Aut) : Prop := (v = .sl true 0 [] ∧ l = []) ∨ ∃ k,v = .own false k 0 l.length 5 ∧ G[k]? = some (.cells false false (xMq l))
def six (k : Int) : List Aut := [⟨k,2,true,[],true,[],true,[]⟩,⟨1,k,true,[],true,[],true,[]⟩,⟨1,3,false,[k],true,[],true,[]⟩,⟨1,3,false,[1,k],true,[],true,[]⟩,⟨1,3,true,[],false,[0,k],true,[]⟩,⟨1,3,true,[],false,[k,2],true,[]⟩]
def xZp (k : Int) (b : Nat) : List Aut := [⟨2,3,false,[0],false,[1],false,[⟨k,0,0,0,0⟩,⟨0,k,0,0,0⟩]⟩,⟨2,3,false,[0],false,[1],false,[⟨0,k,0,0,0⟩]⟩,⟨2,3,false,[0],false,[1],false,[⟨0,0,k,0,0⟩,⟨0,0,1,b,2⟩]⟩,⟨2,3,false,[0],true,[],false,[⟨0,0,0,1,b⟩]⟩]
theorem yAE (k : Int) : ∀ n ∈ six k,xMR n := by
 intro n hn e he
 simp only [six,List.mem_cons,List.not_mem_nil,or_false] at hn
 rcases hn with rfl | rfl | rfl | rfl | rfl | rfl <;> cases he
theorem xXY (k : Int) {b : Nat} (hb : b < 256) : ∀ n ∈ xZp k b,xMR n := by
 intro n hn e he
 simp only [xZp,List.mem_cons,List.not_mem_nil,or_false] at hn
 rcases hn with rfl | rfl | rfl | rfl
 all_goals
  simp only [List.mem_cons,List.not_mem_nil,or_false] at he
  first
   | (rcases he with rfl | rfl <;> (constructor <;> (first | omega | (show (0 : Nat) < 256; omega) | (show (2 : Nat) < 256; omega) | exact hb)))
   | (subst he; constructor <;> (first | omega | (show (0 : Nat) < 256; omega) | (show (1 : Nat) < 256; omega) | exact hb))
theorem u8n (x : Int) : ∃ b : Nat,IntKind.u8.wrap x = (b : Nat) ∧ b < 256 := ⟨(IntKind.u8.wrap x).toNat,by rw [IntKind.wrap_u8]; omega,by rw [IntKind.wrap_u8]; omega⟩
set_option maxRecDepth 20000 in
set_option maxHeartbeats 4000000 in
theorem xQe : ∀ (d : Nat) (k : Int) (v : AV) (l : List Aut) (G : Heap),k + d = 6 → -1 ≤ k → l.length + d * 10 ≤ 1000 → (∀ n ∈ l,xMR n) → yG9 G v l →
  ∃ v' l' G',L.loop xW1 yFK ⟨xW2 v (.int .i64 k),G⟩ = some (.exit 0,⟨xW2 v' (.int .i64 6),G'⟩) ∧ yG9 G' v' l' ∧ (∀ n ∈ l',xMR n) ∧ l.length + d * 10 = l'.length
 | 0,k,v,l,G,h,hk,hl,hg,hA => by
  obtain rfl : k = 6 := by omega
  refine ⟨v,l,G,?_,hA,hg,by omega⟩
  rw [yCO]
  simp (maxSteps := 30000000) (disch := first | assumption | omega | (simp only [List.length_cons,List.length_nil,List.length_append,List.length_set,List.length_replicate,List.length_map,List.length_range,List.length_take,List.length_drop,List.all_cons,List.all_nil,AV.isCell,Bool.and_self,Bool.and_true,xAn,xAg,xAh,xAf,xAb,xAa] <;> omega) | rfl | decide) only [xW0,xBi,xAr,xAl,xAz,xDQ,opv,List.getD_cons_succ,List.getD_cons_zero,xBj,List.set_cons_succ,List.set_cons_zero,xAy,xDV,xCH,Int.lt_irrefl,decide_false,xAA,xAs,xAx,xAk,xAP,xAv,Bool.false_eq_true,↓reduceIte,xDM,xCv,xBn,xZQ]
 | d + 1,k,v,l,G,h,hk,hl,hg,hA => by
  have hlt : k < 6 := by omega
  have hw : IntKind.i64.wrap (k + 1) = k + 1 := xLs (by omega) (by omega)
  obtain ⟨b,hb,hb2⟩ := u8n (xK8 .and .i64 k 7)
  have hl6 : (l ++ six k).length = l.length + 6 := by rw [List.length_append]; rfl
  have hl10 : ((l ++ six k) ++ xZp k b).length = l.length + 10 := by rw [List.length_append,hl6]; rfl
  have hgd : ∀ n ∈ (l ++ six k) ++ xZp k b,xMR n := fun n hn => by
   rcases List.mem_append.1 hn with hn | hn
   ·rcases List.mem_append.1 hn with hn | hn
    ·exact hg n hn
    ·exact yAE k n hn
   ·exact xXY k hb2 n hn
  have s6 : ∀ X : List AV,X ++ xMq (six k) = X ++ [.int .i64 k,.int .i64 2,.sl true 0 [],.sl true 0 [],.sl true 0 [],.int .i64 1,.int .i64 k,.sl true 0 [],.sl true 0 [],.sl true 0 [],.int .i64 1,.int .i64 3,.sl false 1 [.int .i64 k],.sl true 0 [],.sl true 0 [],.int .i64 1,.int .i64 3,.sl false 2 [.int .i64 1,.int .i64 k],.sl true 0 [],.sl true 0 [],.int .i64 1,.int .i64 3,.sl true 0 [],.sl false 2 [.int .i64 0,.int .i64 k],.sl true 0 [],.int .i64 1,.int .i64 3,.sl true 0 [],.sl false 2 [.int .i64 k,.int .i64 2],.sl true 0 []] := fun _ => rfl
  have s4 : ∀ X : List AV,X ++ xMq (xZp k b) = X ++ [.int .i64 2,.int .i64 3,.sl false 1 [.int .i64 0],.sl false 1 [.int .i64 1],.sl false 2 [.int .i64 k,.int .i64 0,.int .i64 0,.int .u8 0,.int .u8 0,.int .i64 0,.int .i64 k,.int .i64 0,.int .u8 0,.int .u8 0],.int .i64 2,.int .i64 3,.sl false 1 [.int .i64 0],.sl false 1 [.int .i64 1],.sl false 1 [.int .i64 0,.int .i64 k,.int .i64 0,.int .u8 0,.int .u8 0],.int .i64 2,.int .i64 3,.sl false 1 [.int .i64 0],.sl false 1 [.int .i64 1],.sl false 2 [.int .i64 0,.int .i64 0,.int .i64 k,.int .u8 0,.int .u8 0,.int .i64 0,.int .i64 0,.int .i64 1,.int .u8 (b : Nat),.int .u8 2],.int .i64 2,.int .i64 3,.sl false 1 [.int .i64 0],.sl true 0 [],.sl false 1 [.int .i64 0,.int .i64 0,.int .i64 0,.int .u8 1,.int .u8 (b : Nat)]] := fun _ => rfl
  have t6 := s6 (xMq l)
  rw [xUH] at t6
  have t4 := s4 (xMq (l ++ six k))
  rw [xUH] at t4
  have hcut : List.take (l.length * 5) (xMq l) = xMq l := List.take_of_length_le (by rw [xKy]; omega)
  have hal := xKy l
  have hal6 := xKy (l ++ six k)
  rw [hl6] at hal6
  have hcut6 : List.take ((l.length + 6) * 5) (xMq (l ++ six k)) = xMq (l ++ six k) := List.take_of_length_le (by rw [hal6]; omega)
  rcases hA with ⟨rfl,rfl⟩ | ⟨p,rfl,hp⟩
  ·obtain ⟨v',l',G',ih,i2,i3,i4⟩ := xQe d (k + 1) (.own false (G.length + 1) 0 10 5) (([] ++ six k) ++ xZp k b) ((G ++ [.dead]) ++ [.cells false false (xMq (([] ++ six k) ++ xZp k b))]) (by omega) (by omega) (by rw [hl10]; simp at hl ⊢; omega) hgd (.inr ⟨G.length + 1,rfl,by simp⟩)
   refine ⟨v',l',G',?_,i2,i3,by rw [hl10] at i4; simp at i4 ⊢; omega⟩
   have hq : ∀ X : Blk,(G ++ [X])[G.length]? = some X := fun X => List.getElem?_concat_length
   have hs : ∀ X Y : Blk,(G ++ [X]).set G.length Y = G ++ [Y] := fun X Y => by rw [List.set_append_right _ _ (by omega),Nat.sub_self]; rfl
   have t6n : xMq ([] ++ six k) = [.int .i64 k,.int .i64 2,.sl true 0 [],.sl true 0 [],.sl true 0 [],.int .i64 1,.int .i64 k,.sl true 0 [],.sl true 0 [],.sl true 0 [],.int .i64 1,.int .i64 3,.sl false 1 [.int .i64 k],.sl true 0 [],.sl true 0 [],.int .i64 1,.int .i64 3,.sl false 2 [.int .i64 1,.int .i64 k],.sl true 0 [],.sl true 0 [],.int .i64 1,.int .i64 3,.sl true 0 [],.sl false 2 [.int .i64 0,.int .i64 k],.sl true 0 [],.int .i64 1,.int .i64 3,.sl true 0 [],.sl false 2 [.int .i64 k,.int .i64 2],.sl true 0 []] := rfl
   have l30 : (xMq (six k)).length = 30 := rfl
   have c30 : List.take 30 (xMq (six k)) = xMq (six k) := List.take_of_length_le (Nat.le_of_eq l30)
   rw [t4] at ih
   simp only [List.append_assoc,List.cons_append,List.nil_append] at ih
   simp only [List.length_nil,Nat.zero_add] at hcut6 hal6
   rw [yCO]
   simp (maxSteps := 30000000) (disch := first | assumption | omega | (simp only [List.length_cons,List.length_nil,List.length_append,List.length_set,List.length_replicate,List.length_map,List.length_range,List.length_take,List.length_drop,List.all_cons,List.all_nil,AV.isCell,Bool.and_self,Bool.and_true,xAn,xAg,xAh,xAf,xAb,xAa] <;> omega) | rfl | decide) only [xW0,xBi,xAr,xAl,xAz,xDQ,opv,List.getD_cons_succ,List.getD_cons_zero,xBj,List.set_cons_succ,List.set_cons_zero,xAy,xDV,xCH,hlt,decide_true,xAA,xAs,xAx,xAk,xAP,xAv,↓reduceIte,xBZ,xAD,xBG,AV.cells,List.all_cons,List.length_cons,List.length_nil,Nat.zero_add,beq_self_eq_true,List.all_nil,Bool.and_self,List.map_cons,List.map_nil,fillA,Nat.reduceAdd,Nat.reduceLeDiff,AV.isCell,and_self,splice,List.take_zero,List.nil_append,List.drop_succ_cons,List.drop_zero,List.cons_append,List.take_succ_cons,Option.map_some,xBP,xHH,List.append_nil,Nat.mul_one,Nat.le_refl,List.drop_nil,xBO,xB0,frzN,List.flatMap_cons,xCK,List.flatMap_nil,List.isEmpty_nil,List.mapM_cons,xBQ,List.mapM_nil,Option.pure_def,Option.bind_eq_bind,Option.bind_some,xCU,xHw,xH5,Nat.reduceMul,← t6n,yAD,yAC,xB1,xHv,xFa,Nat.reduceBEq,xEu,xGw,xGx,xDJ,hb,xH0,xGF,xGe,xD5,hq,xAY,List.length_append,hs,c30,List.append_assoc,xAt,xDS,hw,xAC,xZQ,ih]
  ·have hpl := (List.getElem?_eq_some_iff.1 hp).1
   obtain ⟨v',l',G',ih,i2,i3,i4⟩ := xQe d (k + 1) (.own false (G.length + 1) 0 (l.length + 6 + 4) 5) ((l ++ six k) ++ xZp k b) ((G.set p .dead ++ [.dead]) ++ [.cells false false (xMq ((l ++ six k) ++ xZp k b))]) (by omega) (by omega) (by rw [hl10]; omega) hgd (.inr ⟨G.length + 1,by rw [hl10],by simp⟩)
   refine ⟨v',l',G',?_,i2,i3,by rw [hl10] at i4; omega⟩
   have hq : ∀ X : Blk,(G.set p .dead ++ [X])[G.length]? = some X := fun X => by rw [List.getElem?_append_right (by simp),List.length_set,Nat.sub_self]; rfl
   have hs : ∀ X Y : Blk,(G.set p .dead ++ [X]).set G.length Y = G.set p .dead ++ [Y] := fun X Y => by rw [List.set_append_right _ _ (by simp),List.length_set,Nat.sub_self]; rfl
   rw [t4] at ih
   simp only [List.append_assoc,List.cons_append,List.nil_append] at ih
   rw [yCO]
   simp (maxSteps := 30000000) (disch := first | assumption | omega | (simp only [List.length_cons,List.length_nil,List.length_append,List.length_set,List.length_replicate,List.length_map,List.length_range,List.length_take,List.length_drop,List.all_cons,List.all_nil,AV.isCell,Bool.and_self,Bool.and_true,xAn,xAg,xAh,xAf,xAb,xAa] <;> omega) | rfl | decide) only [xW0,xBi,xAr,xAl,xAz,xDQ,opv,List.getD_cons_succ,List.getD_cons_zero,xBj,List.set_cons_succ,List.set_cons_zero,xAy,xDV,xCH,hlt,decide_true,xAA,xAs,xAx,xAk,xAP,xAv,↓reduceIte,xBZ,xAD,xBG,AV.cells,List.all_cons,List.length_cons,List.length_nil,Nat.zero_add,beq_self_eq_true,List.all_nil,Bool.and_self,List.map_cons,List.map_nil,fillA,Nat.reduceAdd,Nat.reduceLeDiff,AV.isCell,and_self,splice,List.take_zero,List.nil_append,List.drop_succ_cons,List.drop_zero,List.cons_append,List.take_succ_cons,Option.map_some,xBP,xHH,List.append_nil,Nat.mul_one,Nat.le_refl,List.drop_nil,xBO,xB0,frzN,List.flatMap_cons,xCK,List.flatMap_nil,List.isEmpty_nil,List.mapM_cons,xBQ,List.mapM_nil,Option.pure_def,Option.bind_eq_bind,Option.bind_some,xCU,xHw,xH5,Nat.reduceMul,xGF,xGe,xB1,xHv,xD5,hp,xAY,Nat.reduceBEq,hcut,← t6,xGw,xGx,xDJ,hb,xH0,hq,List.length_append,List.length_set,hs,hcut6,List.append_assoc,xAt,xDS,hw,xAC,xZQ,ih]
def exA : Aut := ⟨2,2,false,[0],false,[1],false,[⟨0,0,1,1,0⟩,⟨1,0,1,0,0⟩,⟨0,1,1,0,0⟩,⟨0,0,0,0,0⟩]⟩
theorem xUI : xMR exA := by
 intro e he
 simp only [exA,List.mem_cons,List.not_mem_nil,or_false] at he
 rcases he with rfl | rfl | rfl | rfl <;> exact ⟨by decide,by decide⟩
theorem yGx : L.pcall 32 [] = some exA.av := by
 rw [yHW,a32,xAd]
 simp (disch := omega) only [xAp,List.length_nil,Nat.sub_zero,pads,List.nil_append,xBi,xAr,xAl,xAz,xFh,AV.cells,opv,List.all_cons,AV.isCell,List.all_nil,Bool.and_self,↓reduceIte,xBj,List.set_cons_zero,xAy,xAs,xAx,xAk,xBP,List.length_cons,Nat.zero_add,beq_self_eq_true,xHH,List.append_nil,Nat.mul_one,List.map_cons,List.map_nil,fillA,Nat.le_refl,and_self,splice,List.take_zero,List.drop_succ_cons,List.drop_nil,xBO,xEu,List.cons_append,List.set_cons_succ,Nat.reduceAdd,xBG,Nat.reduceLeDiff,List.take_succ_cons,List.drop_zero,Option.map_some,xAA,List.getD_cons_succ,List.getD_cons_zero,xH0,Nat.reduceMul,xBr,xFe,List.getElem?_cons_zero,xAN,xAw,xCX,xE2,xBH,xDD,xDF,xEv,xAE,List.take_nil,xBd,xIh,xAX,xBm,frzN,xD7,List.mapM_cons,xBQ,xDT,List.getElem?_cons_succ,xBR,List.mapM_nil,Option.pure_def,Option.bind_eq_bind,Option.bind_some,xCU]
 rfl
abbrev yAF : Prop := ∀ (n : Aut),xMR n → ∀ (z : Bool) (t : List Lf),(∀ e ∈ t,e.x < 256) → L.pcall 3 [n.av,tw z t] = some (.bool true)
abbrev xXZ : Prop := ∀ (n k : Aut),xMR n → xMR k → L.pcall 4 [n.av,k.av] = some (.bool true)
abbrev lf1 : AV := .sl false 1 [.int .u8 1,.int .i64 (-1),.int .i64 (-1)]
set_option maxRecDepth 20000 in
set_option maxHeartbeats 4000000 in
theorem xSt (h3 : yAF) (h4 : xXZ) {p : Nat} {l : List Aut} {G : Heap} (hg : ∀ n ∈ l,xMR n) (hp : G[p]? = some (.cells false false (xMq l))) (hl : l.length ≤ 1000) (h0 : 0 < l.length) :
  ∀ (d i : Nat),i + d = l.length → L.loop xW3 yFL ⟨xW4 .any (.own false p 0 l.length 5) lf1 (.int .i64 i),G⟩ = some (.exit 2,⟨xW4 .any (.own false p 0 l.length 5) lf1 (.int .i64 l.length),G⟩)
 | 0,i,h => by
  obtain rfl : i = l.length := by omega
  rw [yEA]
  simp (disch := omega) only [xZR,xBi,xAr,xAl,xAz,xDQ,opv,List.getD_cons_succ,List.getD_cons_zero,xBj,List.set_cons_succ,List.set_cons_zero,xAy,xHu,xD4,xAA,xDV,xCH,Int.lt_irrefl,decide_false,xAs,xAx,xAk,xAP,xAv,Bool.false_eq_true,↓reduceIte,xDM,xCv,xBn,yCP]
 | d + 1,i,h => by
  have hi : i < l.length := by omega
  have ih := xSt h3 h4 hg hp hl h0 d (i + 1) (by omega)
  have hlt : ((i : Nat) : Int) < (l.length : Nat) := by omega
  have hw : IntKind.i64.wrap ((i : Nat) + 1) = ((i + 1 : Nat) : Int) := by rw [xLs (by omega) (by omega)]; omega
  have at_i := xXX hi
  have at_0 := xXX h0
  have hal := xKy l
  have gi : xMR (l.getD i a0) := hg _ (by rw [List.getD_eq_getElem?_getD,List.getElem?_eq_getElem hi]; exact List.getElem_mem hi)
  have g0 : xMR (l.getD 0 a0) := hg _ (by rw [List.getD_eq_getElem?_getD,List.getElem?_eq_getElem h0]; exact List.getElem_mem h0)
  generalize l.getD i a0 = n at *
  generalize l.getD 0 a0 = m at *
  have c1 : L.pcall 3 [n.av,lf1] = some (.bool true) := h3 n gi false [⟨1,-1,-1⟩] (by intro e he; simp at he; subst he; decide)
  have c2 : L.pcall 3 [n.av,.sl true 0 []] = some (.bool true) := h3 n gi true [] (by simp)
  have c3 := h4 n exA gi xUI
  have c4 := h4 exA n xUI gi
  have c5 := h4 n m gi g0
  have ex := yGx
  generalize exA = x at *
  simp only [Nat.zero_mul,List.drop_zero] at at_0
  dsimp only [Aut.av,Aut.cells,iw] at at_i at_0 c1 c2 c3 c4 c5 ex
  rw [yEA]
  simp (disch := omega) only [xZR,xBi,xAr,xAl,xAz,xDQ,opv,List.getD_cons_succ,List.getD_cons_zero,xBj,List.set_cons_succ,List.set_cons_zero,xAy,xHu,xD4,xAA,xDV,xCH,hlt,decide_true,xAs,xAx,xAk,xAP,xAv,↓reduceIte,xBZ,xAD,xEo,List.take_succ_cons,List.take_zero,xAM,xBF,xH1,xCI,xD3,xBN,xFn,xFl,xCN,Int.toNat_natCast,Nat.zero_add,xFZ,xCw,xEv,hp,xAE,at_i,xC7,xGf,List.map_cons,List.map_nil,xBu,frzN,List.mapM_cons,xD7,xBQ,xGe,List.mapM_nil,Option.pure_def,Option.bind_eq_bind,Option.bind_some,Option.map_some,Int.reduceNeg,xBt,c1,xBs,xE0,xAJ,xA8,quietCall,List.flatMap_cons,xFs,xCK,xGF,List.flatMap_nil,List.append_nil,List.all_nil,Bool.or_true,xJI,xJH,xHZ,Bool.not_true,xBl,xAU,c2,xGj,xFd,xBc,Bool.false_eq_true,ex,List.all_cons,Bool.and_true,Bool.and_self,Bool.and_false,fzIds,List.foldl_nil,c3,c4,Int.toNat_zero,Nat.reduceMul,Nat.add_zero,List.drop_zero,at_0,xA7,xBL,List.drop_succ_cons,adopt,xAm,xBb,xAL,xEJ,c5,xAt,xDS,xJF,xLs,xAC,yCP,ih]
structure xSW (G0 : Heap) (m p : Nat) (c0 c1 c2 c3 : AV) (G : Heap) (rv : AV) (w : List Rl) : Prop where
 mp : m ≤ p
 kp : ∀ j,j < m → G[j]? = G0[j]?
 g3 : G[p]? = some (.cells false false [c0,c1,c2,c3,rv])
 own : (rv = .sl true 0 [] ∧ w = []) ∨ ∃ k,(m ≤ k ∧ k ≠ p) ∧ rv = .own false k 0 w.length 5 ∧ G[k]? = some (.cells false false (rls w))
def chn : Nat → Nat → List Rl
 | 0,_ => []
 | d + 1,i => ⟨i,0,(i + 1 : Nat),0,0⟩ :: ⟨0,i,i,0,0⟩ :: chn d (i + 1)
theorem xQf (a b : List Rl) : rls a ++ rls b = rls (a ++ b) := xKA xGI a b
set_option maxRecDepth 20000 in
set_option maxHeartbeats 4000000 in
theorem xMS {G0 : Heap} {m p : Nat} {c0 c1 c2 c3 : AV} : ∀ (d i : Nat) (G : Heap) (rv : AV) (w : List Rl),i + d = 63 → w.length = 2 * i → xSW G0 m p c0 c1 c2 c3 G rv w →
  ∃ G' rv',L.loop xW6 yFM ⟨xW7 (.ptr p 0) (.int .i64 (i : Nat)),G⟩ = some (.exit 4,⟨xW7 (.ptr p 0) (.int .i64 63),G'⟩) ∧ xSW G0 m p c0 c1 c2 c3 G' rv' (w ++ chn d i)
 | 0,i,G,rv,w,h,hw,hI => by
  obtain rfl : i = 63 := by omega
  refine ⟨G,rv,?_,by rw [chn,List.append_nil]; exact hI⟩
  rw [yCQ]
  simp (maxSteps := 30000000) (disch := first | assumption | omega | (simp only [List.length_cons,List.length_nil,List.length_append,List.length_set,List.length_replicate,List.length_map,List.length_range,List.length_take,List.length_drop,List.all_cons,List.all_nil,AV.isCell,Bool.and_self,Bool.and_true,xAn,xAg,xAh,xAf,xAb,xAa] <;> omega) | rfl | decide) only [xW5,xGs,xBi,xAr,xAl,xAz,xDQ,opv,List.getD_cons_succ,List.getD_cons_zero,xBj,List.set_cons_succ,List.set_cons_zero,xAy,xDV,xCH,Int.lt_irrefl,decide_false,xAA,xAs,xAx,xAk,xAP,xAv,Bool.false_eq_true,↓reduceIte,xDM,xCv,xBn,xZS]
 | d + 1,i,G,rv,w,h,hw,hI => by
  have hlt : ((i : Nat) : Int) < 63 := by omega
  have hwr : IntKind.i64.wrap ((i : Nat) + 1) = ((i + 1 : Nat) : Int) := by rw [xLs (by omega) (by omega)]; omega
  have hg := hI.g3
  have hmp := hI.mp
  have len3 := (List.getElem?_eq_some_iff.1 hI.g3).1
  have a3 : ∀ X : Heap,(G ++ X)[p]? = some (.cells false false [c0,c1,c2,c3,rv]) := fun X => xAu hI.g3
  have hsn : ∀ X : List AV,X ++ [.int .i64 (i : Nat),.int .i64 0,.int .i64 (i + 1 : Nat),.int .u8 0,.int .u8 0,.int .i64 0,.int .i64 (i : Nat),.int .i64 (i : Nat),.int .u8 0,.int .u8 0] = X ++ rls [⟨i,0,(i + 1 : Nat),0,0⟩,⟨0,i,i,0,0⟩] := fun _ => rfl
  have hsn2 := hsn (rls w)
  rw [xQf] at hsn2
  have hq : ∀ X : Blk,(G ++ [X])[G.length]? = some X := fun X => List.getElem?_concat_length
  have hs : ∀ X Y : Blk,(G ++ [X]).set G.length Y = G ++ [Y] := fun X Y => by rw [List.set_append_right _ _ (by omega),Nat.sub_self]; rfl
  rcases hI.own with ⟨hrv,hww⟩ | ⟨k,⟨k0,k1⟩,hrv,hk⟩
  ·subst hww
   have hone : rls [⟨i,0,(i + 1 : Nat),0,0⟩,⟨0,i,i,0,0⟩] = [.int .i64 (i : Nat),.int .i64 0,.int .i64 (i + 1 : Nat),.int .u8 0,.int .u8 0,.int .i64 0,.int .i64 (i : Nat),.int .i64 (i : Nat),.int .u8 0,.int .u8 0] := rfl
   obtain ⟨G',rv',e1,e2⟩ := xMS (G0 := G0) (m := m) (p := p) (c0 := c0) (c1 := c1) (c2 := c2) (c3 := c3) d (i + 1) ((G ++ [Blk.cells false false (rls [⟨i,0,(i + 1 : Nat),0,0⟩,⟨0,i,i,0,0⟩])]).set p (Blk.cells false false [c0,c1,c2,c3,.own false G.length 0 2 5])) (.own false G.length 0 2 5) [⟨i,0,(i + 1 : Nat),0,0⟩,⟨0,i,i,0,0⟩] (by omega) (by simp at hw ⊢; omega)
    ⟨hmp,fun j hj => by rw [List.getElem?_set_ne (by omega),List.getElem?_append_left (by omega)]; exact hI.kp j hj,by rw [List.getElem?_set_self (by simp; omega)],.inr ⟨G.length,⟨by omega,by omega⟩,rfl,by rw [List.getElem?_set_ne (by omega)]; exact hq _⟩⟩
   refine ⟨G',rv',?_,by rw [chn]; exact e2⟩
   rw [hone] at e1
   rw [yCQ]
   simp only [hrv] at a3 hg ⊢
   simp (maxSteps := 30000000) (disch := first | assumption | omega | (simp only [List.length_cons,List.length_nil,List.length_append,List.length_set,List.length_replicate,List.length_map,List.length_range,List.length_take,List.length_drop,List.all_cons,List.all_nil,AV.isCell,Bool.and_self,Bool.and_true,xAn,xAg,xAh,xAf,xAb,xAa] <;> omega) | rfl | decide) only [xW5,xBi,xAr,xAl,xAz,xDQ,opv,List.getD_cons_succ,List.getD_cons_zero,xBj,List.set_cons_succ,List.set_cons_zero,xAy,xDV,xCH,hlt,decide_true,xAA,xAs,xAx,xAk,xAP,xAv,↓reduceIte,xBZ,xAD,xCV,xAW,Nat.zero_add,xCw,xEv,hg,xAE,List.drop_succ_cons,List.drop_zero,List.take_succ_cons,List.take_nil,xE3,xDS,xJF,xLs,xBG,AV.cells,List.all_cons,List.length_cons,List.length_nil,beq_self_eq_true,List.all_nil,Bool.and_self,List.map_cons,List.map_nil,fillA,Nat.reduceAdd,Nat.reduceLeDiff,AV.isCell,and_self,splice,List.take_zero,List.nil_append,List.cons_append,Option.map_some,xBP,xHw,List.append_nil,Nat.reduceMul,Nat.le_refl,List.drop_nil,xBO,xB0,frzN,List.flatMap_cons,xCK,List.flatMap_nil,List.isEmpty_nil,List.mapM_cons,xBQ,List.mapM_nil,Option.pure_def,Option.bind_eq_bind,Option.bind_some,xCU,xB1,xHv,xFa,Nat.reduceBEq,xEu,xBr,xFe,a3,xAN,xAw,xCX,xAt,xAC,xZS,e1]
  ·have hk' : ∀ X : Heap,(G ++ X)[k]? = some (.cells false false (rls w)) := fun X => xAu hk
   have klt := (List.getElem?_eq_some_iff.1 hk).1
   have htk : List.take (w.length * 5) (rls w) = rls w := List.take_of_length_le (by rw [xAa]; omega)
   have a4 : ∀ Y : Heap,(G.set k Blk.dead ++ Y)[p]? = some (.cells false false [c0,c1,c2,c3,rv]) := fun Y => xAu (by rw [List.getElem?_set_ne (by omega)]; exact hg)
   have hwl : w.length ≤ 200 := by omega
   obtain ⟨G',rv',e1,e2⟩ := xMS (G0 := G0) (m := m) (p := p) (c0 := c0) (c1 := c1) (c2 := c2) (c3 := c3) d (i + 1) ((G.set k Blk.dead ++ [Blk.cells false false (rls (w ++ [⟨i,0,(i + 1 : Nat),0,0⟩,⟨0,i,i,0,0⟩]))]).set p (Blk.cells false false [c0,c1,c2,c3,.own false G.length 0 (w.length + 2) 5])) (.own false G.length 0 (w.length + 2) 5) (w ++ [⟨i,0,(i + 1 : Nat),0,0⟩,⟨0,i,i,0,0⟩]) (by omega) (by simp; omega)
    ⟨hmp,fun j hj => by rw [List.getElem?_set_ne (by omega),List.getElem?_append_left (by simp; omega),List.getElem?_set_ne (by omega)]; exact hI.kp j hj,by rw [List.getElem?_set_self (by simp; omega)],.inr ⟨G.length,⟨by omega,by omega⟩,by simp,by rw [List.getElem?_set_ne (by omega)]; simp⟩⟩
   refine ⟨G',rv',?_,by rw [List.append_assoc] at e2; exact e2⟩
   rw [yCQ]
   simp only [hrv] at a3 a4 hg ⊢
   simp (maxSteps := 30000000) (disch := first | assumption | omega | (simp only [List.length_cons,List.length_nil,List.length_append,List.length_set,List.length_replicate,List.length_map,List.length_range,List.length_take,List.length_drop,List.all_cons,List.all_nil,AV.isCell,Bool.and_self,Bool.and_true,xAn,xAg,xAh,xAf,xAb,xAa] <;> omega) | rfl | decide) only [xW5,xBi,xAr,xAl,xAz,xDQ,opv,List.getD_cons_succ,List.getD_cons_zero,xBj,List.set_cons_succ,List.set_cons_zero,xAy,xDV,xCH,hlt,decide_true,xAA,xAs,xAx,xAk,xAP,xAv,↓reduceIte,xBZ,xAD,xCV,xAW,Nat.zero_add,xCw,xEv,hg,xAE,List.drop_succ_cons,List.drop_zero,List.take_succ_cons,List.take_nil,xE3,xDS,xJF,xLs,xBG,AV.cells,List.all_cons,List.length_cons,List.length_nil,beq_self_eq_true,List.all_nil,Bool.and_self,List.map_cons,List.map_nil,fillA,Nat.reduceAdd,Nat.reduceLeDiff,AV.isCell,and_self,splice,List.take_zero,List.nil_append,List.cons_append,Option.map_some,xBP,xHw,List.append_nil,Nat.reduceMul,Nat.le_refl,List.drop_nil,xBO,xB0,frzN,List.flatMap_cons,xCK,List.flatMap_nil,List.isEmpty_nil,List.mapM_cons,xBQ,List.mapM_nil,Option.pure_def,Option.bind_eq_bind,Option.bind_some,xCU,xB1,xHv,xD5,hk,xAY,Nat.reduceBEq,htk,hsn2,xBr,xFe,a4,xAN,xAw,xCX,xAt,xAC,xZS,e1]
def yBX : Rl := ⟨5,5,9,0,0⟩
set_option maxRecDepth 20000 in
set_option maxHeartbeats 4000000 in
theorem xSu {G0 : Heap} {m p q : Nat} {c0 c1 c2 c3 : AV} : ∀ (d : Nat) (G : Heap) (rv : AV) (w : List Rl),w.length + d = 512 → 0 < w.length → xSW G0 m p c0 c1 c2 c3 G rv w →
  ∃ G' rv',L.loop xW8 yFN ⟨xW9 (.ptr q 0) (.ptr p 0),G⟩ = some (.exit 6,⟨xW9 (.ptr q 0) (.ptr p 0),G'⟩) ∧ xSW G0 m p c0 c1 c2 c3 G' rv' (w ++ List.replicate d yBX)
 | 0,G,rv,w,h,hw,hI => by
  have h512 : w.length = 512 := by omega
  refine ⟨G,rv,?_,by rw [List.replicate_zero,List.append_nil]; exact hI⟩
  have hg := hI.g3
  have hmp := hI.mp
  rcases hI.own with ⟨hrv,hww⟩ | ⟨k,⟨k0,k1⟩,hrv,hk⟩
  ·rw [hww] at hw; exact absurd hw (by decide)
  ·rw [h512] at hrv
   simp only [hrv] at hg
   rw [yEB]
   simp (maxSteps := 30000000) (disch := first | assumption | omega | (simp only [List.length_cons,List.length_nil,List.length_append,List.length_set,List.length_replicate,List.length_map,List.length_range,List.length_take,List.length_drop,List.all_cons,List.all_nil,AV.isCell,Bool.and_self,Bool.and_true,xAn,xAg,xAh,xAf,xAb,xAa] <;> omega) | rfl | decide) only [xZT,xBi,xAr,xAl,xAz,xCV,opv,List.getD_cons_succ,List.getD_cons_zero,xAW,Nat.zero_add,xAA,xBj,List.set_cons_succ,List.set_cons_zero,xAy,xCw,xEv,hg,xAE,List.drop_succ_cons,List.drop_zero,List.take_succ_cons,List.take_nil,xE3,xHu,xD4,xGs,xDV,xCH,Int.lt_irrefl,decide_false,xAs,xAx,xAk,xAP,xAv,Bool.false_eq_true,↓reduceIte,xDM,xCv,xBn,yCR]
 | d + 1,G,rv,w,h,hw,hI => by
  have hlt : ((w.length : Nat) : Int) < 512 := by omega
  have hg := hI.g3
  have hmp := hI.mp
  have len3 := (List.getElem?_eq_some_iff.1 hI.g3).1
  have a3 : ∀ X : Heap,(G ++ X)[p]? = some (.cells false false [c0,c1,c2,c3,rv]) := fun X => xAu hI.g3
  have hsn : rls w ++ [.int .i64 5,.int .i64 5,.int .i64 9,.int .u8 0,.int .u8 0] = rls (w ++ [yBX]) := xQf w [yBX]
  rcases hI.own with ⟨hrv,hww⟩ | ⟨k,⟨k0,k1⟩,hrv,hk⟩
  ·rw [hww] at hw; exact absurd hw (by decide)
  ·have hk' : ∀ X : Heap,(G ++ X)[k]? = some (.cells false false (rls w)) := fun X => xAu hk
   have klt := (List.getElem?_eq_some_iff.1 hk).1
   have htk : List.take (w.length * 5) (rls w) = rls w := List.take_of_length_le (by rw [xAa]; omega)
   have a4 : ∀ Y : Heap,(G.set k Blk.dead ++ Y)[p]? = some (.cells false false [c0,c1,c2,c3,rv]) := fun Y => xAu (by rw [List.getElem?_set_ne (by omega)]; exact hg)
   have hwl : w.length ≤ 511 := by omega
   obtain ⟨G',rv',e1,e2⟩ := xSu (G0 := G0) (m := m) (p := p) (q := q) (c0 := c0) (c1 := c1) (c2 := c2) (c3 := c3) d ((G.set k Blk.dead ++ [Blk.cells false false (rls (w ++ [yBX]))]).set p (Blk.cells false false [c0,c1,c2,c3,.own false G.length 0 (w.length + 1) 5])) (.own false G.length 0 (w.length + 1) 5) (w ++ [yBX]) (by simp; omega) (by simp)
    ⟨hmp,fun j hj => by rw [List.getElem?_set_ne (by omega),List.getElem?_append_left (by simp; omega),List.getElem?_set_ne (by omega)]; exact hI.kp j hj,by rw [List.getElem?_set_self (by simp; omega)],.inr ⟨G.length,⟨by omega,by omega⟩,by simp,by rw [List.getElem?_set_ne (by omega)]; simp⟩⟩
   refine ⟨G',rv',?_,by rw [List.append_assoc] at e2; exact e2⟩
   rw [yEB]
   simp only [hrv] at a3 a4 hg ⊢
   simp (maxSteps := 30000000) (disch := first | assumption | omega | (simp only [List.length_cons,List.length_nil,List.length_append,List.length_set,List.length_replicate,List.length_map,List.length_range,List.length_take,List.length_drop,List.all_cons,List.all_nil,AV.isCell,Bool.and_self,Bool.and_true,xAn,xAg,xAh,xAf,xAb,xAa] <;> omega) | rfl | decide) only [xZT,xBi,xAr,xAl,xAz,xCV,opv,List.getD_cons_succ,List.getD_cons_zero,xAW,Nat.zero_add,xAA,xBj,List.set_cons_succ,List.set_cons_zero,xAy,xCw,xEv,hg,xAE,List.drop_succ_cons,List.drop_zero,List.take_succ_cons,List.take_nil,xE3,xHu,xD4,xDV,xCH,hlt,decide_true,xAs,xAx,xAk,xAP,xAv,↓reduceIte,xBZ,xAD,xBG,AV.cells,List.all_cons,List.length_cons,List.length_nil,beq_self_eq_true,List.all_nil,Bool.and_self,List.map_cons,List.map_nil,fillA,Nat.reduceAdd,Nat.reduceLeDiff,AV.isCell,and_self,splice,List.take_zero,List.nil_append,List.cons_append,Option.map_some,xBP,xHH,List.append_nil,Nat.reduceMul,Nat.le_refl,List.drop_nil,xBO,xB0,frzN,List.flatMap_cons,xCK,List.flatMap_nil,List.isEmpty_nil,List.mapM_cons,xBQ,List.mapM_nil,Option.pure_def,Option.bind_eq_bind,Option.bind_some,xCU,xB1,xHv,xD5,hk,xAY,Nat.reduceBEq,htk,hsn,xBr,xFe,a4,xAN,xAw,xCX,xAt,xAC,yCR,e1]
theorem yBY : ∀ (d i : Nat),∀ e ∈ chn d i,e.p < 256 ∧ e.n < 256
 | 0,_,e,h => by cases h
 | d + 1,i,e,h => by
  rw [chn] at h
  rcases List.mem_cons.1 h with rfl | h
  ·exact ⟨by show (0 : Nat) < 256; decide,by show (0 : Nat) < 256; decide⟩
  rcases List.mem_cons.1 h with rfl | h
  ·exact ⟨by show (0 : Nat) < 256; decide,by show (0 : Nat) < 256; decide⟩
  exact yBY d (i + 1) e h
theorem xX0 (s : Int) : xMR ⟨0,s,true,[],true,[],true,[]⟩ := fun e h => by cases h
theorem yEY (w : List Rl) (z : Bool) (hw : w.length < 1099511627776) (h0 : w.length ≠ 0) : xCG L 33 [.agg [.int .i64 0,.int .i64 64,.sl false 1 [.int .i64 0],.sl false 1 [.int .i64 63],.sl z w.length (rls w)]] =
  some (.agg [.int .i64 0,.int .i64 64,.own false 0 0 1 1,.own false 1 0 1 1,.own false 2 0 w.length 5],[.cells false false [.int .i64 0],.cells false false [.int .i64 63],.cells false false (rls w)]) := by
 have := xUL ⟨0,64,false,[0],false,[63],z,w⟩ (by show (1 : Nat) < _; decide) (by show (1 : Nat) < _; decide) hw
 rw [show (w.length == 0) = false from by simpa using h0] at this
 exact this
theorem ap0 (H : Heap) (a : Blk) (T : Heap) : (H ++ a :: T)[H.length]? = some a := by simp
theorem ap1 (H : Heap) (a b : Blk) (T : Heap) : (H ++ a :: b :: T)[H.length + 1]? = some b := by rw [List.getElem?_append_right (by omega),Nat.add_sub_cancel_left]; rfl
theorem ap2 (H : Heap) (a b c : Blk) (T : Heap) : (H ++ a :: b :: c :: T)[H.length + 2]? = some c := by rw [List.getElem?_append_right (by omega),Nat.add_sub_cancel_left]; rfl
theorem ap3 (H : Heap) (a b c d : Blk) (T : Heap) : (H ++ a :: b :: c :: d :: T)[H.length + 3]? = some d := by rw [List.getElem?_append_right (by omega),Nat.add_sub_cancel_left]; rfl
theorem xJc {H : Heap} {k j : Nat} (h : k ≠ j) : (List.modify H k xGg)[j]? = H[j]? := by
 rw [List.getElem?_modify]; simp [h]
theorem xUJ {H : Heap} {k : Nat} {b : Bool} {l : List AV} (h : H[k]? = some (.cells false b l)) : (List.modify H k xGg)[k]? = some (.cells true b l) := by
 rw [List.getElem?_modify,h]
 show some (if k = k then _ else _) = _
 rw [if_pos rfl]
 rfl
theorem xUK {H : Heap} {k : Nat} {b : Bool} {l : List AV} (h : H[k]? = some (.cells true b l)) : List.modify H k xGg = H := by
 apply List.ext_getElem?
 intro j
 by_cases e : k = j
 ·subst e
  rw [List.getElem?_modify,h]
  show some (if k = k then _ else _) = _
  rw [if_pos rfl]
  rfl
 ·exact xJc e
abbrev lf3 : AV := .sl false 3 [.int .u8 0,.int .i64 1,.int .i64 (-1),.int .u8 0,.int .i64 2,.int .i64 (-1),.int .u8 0,.int .i64 (-1),.int .i64 (-1)]
abbrev big (m : Nat) (w : List Rl) : AV := .agg [.int .i64 0,.int .i64 64,.sl false 1 [.int .i64 0],.sl false 1 [.int .i64 63],.sl false m (rls w)]
abbrev hlf (m : Nat) (w : List Rl) : AV := .agg [.int .i64 0,.int .i64 32,.sl false 2 [.int .i64 0,.int .i64 31],.sl true 0 [],.sl false m (rls w)]
abbrev emp (s : Int) : AV := .agg [.int .i64 0,.int .i64 s,.sl true 0 [],.sl true 0 [],.sl true 0 []]
def xTx (w : List Rl) : Prop := ∀ e ∈ w,e.p < 256 ∧ e.n < 256
theorem yGy (h3 : yAF) {m : Nat} {w : List Rl} (hm : w.length = m) (hu : xTx w) : L.pcall 3 [big m w,lf3] = some (.bool true) := by
 subst hm
 exact h3 ⟨0,64,false,[0],false,[63],false,w⟩ hu false [⟨0,1,-1⟩,⟨0,2,-1⟩,⟨0,-1,-1⟩] (by intro e he; simp only [List.mem_cons,List.not_mem_nil,or_false] at he; rcases he with rfl | rfl | rfl <;> (show (0 : Nat) < 256; decide))
theorem yHa (h3 : yAF) (s : Int) : L.pcall 3 [emp s,.sl true 0 []] = some (.bool true) := h3 ⟨0,s,true,[],true,[],true,[]⟩ (xX0 s) true [] (fun e he => by cases he)
theorem yIk (h4 : xXZ) {m : Nat} {w : List Rl} (hm : w.length = m) (hu : xTx w) : L.pcall 4 [hlf m w,hlf m w] = some (.bool true) := by
 subst hm
 exact h4 ⟨0,32,false,[0,31],true,[],false,w⟩ ⟨0,32,false,[0,31],true,[],false,w⟩ hu hu
theorem yIl (h4 : xXZ) {m k : Nat} {w x : List Rl} (hm : w.length = m) (hk : x.length = k) (hu : xTx w) (hx : xTx x) : L.pcall 4 [hlf m w,big k x] = some (.bool true) := by
 subst hm hk
 exact h4 ⟨0,32,false,[0,31],true,[],false,w⟩ ⟨0,64,false,[0],false,[63],false,x⟩ hu hx
theorem yIm (h4 : xXZ) {k : Nat} {x : List Rl} (hk : x.length = k) (hx : xTx x) : L.pcall 4 [emp 0,big k x] = some (.bool true) := by
 subst hk
 exact h4 ⟨0,0,true,[],true,[],true,[]⟩ ⟨0,64,false,[0],false,[63],false,x⟩ (xX0 0) hx
set_option maxRecDepth 20000 in
set_option maxHeartbeats 4000000 in
theorem yIn (h3 : yAF) (h4 : xXZ) (h29 : L.pcall 29 [] = some (.bool true)) : L.pcall 5 [] = some (.bool true) := by
 obtain ⟨v1,l,G1,e1,A1,g1,n1⟩ := xQe 7 (-1) (.sl true 0 []) [] [] (by decide) (by decide) (by decide) (fun n h => by cases h) (.inl ⟨rfl,rfl⟩)
 have n1 : l.length = 70 := by rw [← n1]; rfl
 obtain ⟨rfl,rfl⟩ | ⟨k1,rfl,hk1⟩ := A1
 ·cases n1
 have e2 := xSt h3 h4 g1 hk1 (by omega) (by omega) 70 0 (by omega)
 obtain ⟨G2,rv2,e4,I2⟩ := xMS (G0 := G1 ++ [Blk.cells false false [.int .i64 0,.int .i64 64,.sl false 1 [.int .i64 0],.sl false 1 [.int .i64 63],.sl true 0 []]]) (m := G1.length) (p := G1.length) 63 0 _ (.sl true 0 []) [] rfl rfl ⟨Nat.le_refl _,fun _ _ => rfl,List.getElem?_concat_length,.inl ⟨rfl,rfl⟩⟩
 simp only [Int.natCast_zero] at e2 e4
 rw [List.nil_append] at I2
 have hq : ∀ X : Blk,(G1 ++ [X])[G1.length]? = some X := fun X => List.getElem?_concat_length
 have hs : ∀ X Y : Blk,(G1 ++ [X]).set G1.length Y = G1 ++ [Y] := fun X Y => by rw [List.set_append_right _ _ (by omega),Nat.sub_self]; rfl
 have hw2 : (chn 63 0).length = 126 := rfl
 have hu2 := yBY 63 0
 generalize chn 63 0 = w2 at *
 have b2 := I2.g3
 obtain ⟨_,rfl⟩ | ⟨k2,k20,rfl,hk2⟩ := I2.own
 ·cases hw2
 have cp2 := yEY w2 false (by omega) (by omega)
 rw [hw2] at b2 cp2
 have l630 : (rls w2).length = 630 := by rw [xAa,hw2]
 have t630 : List.take 630 (rls w2) = rls w2 := List.take_of_length_le (by omega)
 have lg1 := (List.getElem?_eq_some_iff.1 b2).1
 have lk2 := (List.getElem?_eq_some_iff.1 hk2).1
 obtain ⟨H2,hm2⟩ : ∃ H,List.modify G2 k2 xGg = H := ⟨_,rfl⟩
 have l2 : H2.length = G2.length := by rw [← hm2,List.length_modify]
 have l2' : G2.length = H2.length := l2.symm
 have b2' : H2[G1.length]? = G2[G1.length]? := by rw [← hm2,xJc k20.2]
 have hk2' : H2[k2]? = some (.cells true false (rls w2)) := by rw [← hm2,xUJ hk2]
 obtain ⟨G3,rv3,e5,I3⟩ := xSu (G0 := H2 ++ [.cells false false [.int .i64 0],.cells false false [.int .i64 63],.cells false false (rls w2),.cells false false [.int .i64 0,.int .i64 64,.own false H2.length 0 1 1,.own false (H2.length + 1) 0 1 1,.own false (H2.length + 2) 0 126 5]]) (m := H2.length + 2) (p := H2.length + 3) (q := G1.length) (c0 := .int .i64 0) (c1 := .int .i64 64) (c2 := .own false H2.length 0 1 1) (c3 := .own false (H2.length + 1) 0 1 1) 386 _ (.own false (H2.length + 2) 0 126 5) w2 (by omega) (by omega)
  ⟨by omega,fun _ _ => rfl,by exact ap3 _ _ _ _ _ _,.inr ⟨H2.length + 2,⟨by omega,by omega⟩,by rw [hw2],by exact ap2 _ _ _ _ _⟩⟩
 have hw3 : (w2 ++ List.replicate 386 yBX).length = 512 := by rw [List.length_append,List.length_replicate,hw2]
 have hu3 : ∀ e ∈ w2 ++ List.replicate 386 yBX,e.p < 256 ∧ e.n < 256 := fun e he => by
  rcases List.mem_append.1 he with he | he
  ·exact hu2 e he
  ·rw [List.eq_of_mem_replicate he]; exact ⟨by show (0 : Nat) < 256; decide,by show (0 : Nat) < 256; decide⟩
 generalize w2 ++ List.replicate 386 yBX = w3 at *
 have b3 := I3.g3
 obtain ⟨_,rfl⟩ | ⟨k3,k30,rfl,hk3⟩ := I3.own
 ·cases hw3
 have cp3 := yEY w3 false (by omega) (by omega)
 rw [hw3] at b3 cp3
 have l2560 : (rls w3).length = 2560 := by rw [xAa,hw3]
 have t2560 : List.take 2560 (rls w3) = rls w3 := List.take_of_length_le (by omega)
 have q3 := I3.kp
 have c3a : G3[H2.length]? = some (.cells false false [.int .i64 0]) := by rw [q3 _ (by omega)]; exact ap0 _ _ _
 have c3b : G3[H2.length + 1]? = some (.cells false false [.int .i64 63]) := by rw [q3 _ (by omega)]; exact ap1 _ _ _ _
 have c3c : G3[G1.length]? = some (.cells false false [.int .i64 0,.int .i64 64,.sl false 1 [.int .i64 0],.sl false 1 [.int .i64 63],.own false k2 0 126 5]) := by rw [q3 _ (by omega),List.getElem?_append_left (by omega),b2',b2]
 have c3d : G3[k2]? = some (.cells true false (rls w2)) := by rw [q3 _ (by omega),List.getElem?_append_left (by omega),hk2']
 have lg3 := (List.getElem?_eq_some_iff.1 b3).1
 have lk3 := (List.getElem?_eq_some_iff.1 hk3).1
 obtain ⟨H3,hm3⟩ : ∃ H,((List.modify G3 H2.length xGg).modify (H2.length + 1) xGg).modify k3 xGg = H := ⟨_,rfl⟩
 have l3' : G3.length = H3.length := by rw [← hm3,List.length_modify,List.length_modify,List.length_modify]
 have d7 : H3[H2.length + 3]? = G3[H2.length + 3]? := by rw [← hm3,xJc k30.2,xJc (by omega),xJc (by omega)]
 rw [b3] at d7
 have da : H3[H2.length]? = some (.cells true false [.int .i64 0]) := by rw [← hm3,xJc (by omega),xJc (by omega),xUJ c3a]
 have db : H3[H2.length + 1]? = some (.cells true false [.int .i64 63]) := by rw [← hm3,xJc (by omega),xUJ (by rw [xJc (by omega)]; exact c3b)]
 have dk : H3[k3]? = some (.cells true false (rls w3)) := by rw [← hm3,xUJ (by rw [xJc (by omega),xJc (by omega)]; exact hk3)]
 have d5 : H3[G1.length]? = G3[G1.length]? := by rw [← hm3,xJc (by omega),xJc (by omega),xJc (by omega)]
 have d2 : H3[k2]? = G3[k2]? := by rw [← hm3,xJc (by omega),xJc (by omega),xJc (by omega)]
 rw [c3c] at d5
 rw [c3d] at d2
 have hsn3 : rls w3 ++ [.int .i64 0,.int .i64 0,.int .i64 0,.int .u8 0,.int .u8 0] = rls (w3 ++ [Rl.mk 0 0 0 0 0]) := xQf w3 [⟨0,0,0,0,0⟩]
 have hw4 : (w3 ++ [Rl.mk 0 0 0 0 0]).length = 513 := by rw [List.length_append,hw3]; rfl
 have hu4 : xTx (w3 ++ [Rl.mk 0 0 0 0 0]) := fun e he => by
  rcases List.mem_append.1 he with he | he
  ·exact hu3 e he
  ·rw [List.mem_singleton.1 he]; exact ⟨by show (0 : Nat) < 256; decide,by show (0 : Nat) < 256; decide⟩
 have l2565 : (rls (w3 ++ [Rl.mk 0 0 0 0 0])).length = 2565 := by rw [xAa,hw4]
 have t2565 : List.take 2565 (rls (w3 ++ [Rl.mk 0 0 0 0 0])) = rls (w3 ++ [Rl.mk 0 0 0 0 0]) := List.take_of_length_le (by omega)
 have hw9 : (w2.take 60).length = 60 := by rw [List.length_take,hw2]; rfl
 have hu9 : xTx (w2.take 60) := fun e he => hu2 e (List.mem_of_mem_take he)
 have t300 : List.take 300 (rls w2) = rls (w2.take 60) := by
  conv => lhs; rw [← List.take_append_drop 60 w2,← xQf]
  exact List.take_left' (by rw [xAa,hw9])
 have l300 : (rls (w2.take 60)).length = 300 := by rw [xAa,hw9]
 have f1 := yGy h3 hw2 hu2
 have f2 := yGy h3 hw3 hu3
 have f3 := yGy h3 hw4 hu4
 have f4 := yIk h4 hw9 hu9
 have f5 := yIl h4 hw9 hw2 hu9 hu2
 have f6 := yIm h4 hw3 hu3
 have f7 := yHa h3 0
 have f8 := yHa h3 65
 have x5 := fun X : Heap => xAu (X := X) d5
 have x7 := fun X : Heap => xAu (X := X) d7
 have xa := fun X : Heap => xAu (X := X) da
 have xb := fun X : Heap => xAu (X := X) db
 have xk := fun X : Heap => xAu (X := X) dk
 have x2 := fun X : Heap => xAu (X := X) d2
 have ya := fun X : Heap => xUK (xa X)
 have yb := fun X : Heap => xUK (xb X)
 have yk := fun X : Heap => xUK (xk X)
 have y2 := fun X : Heap => xUK (x2 X)
 clear q3
 rw [a5p,a5,xAd]
 simp (maxSteps := 30000000) (disch := first | assumption | omega | (simp only [List.length_cons,List.length_nil,List.length_append,List.length_set,List.length_replicate,List.length_map,List.length_range,List.length_take,List.length_drop,List.all_cons,List.all_nil,AV.isCell,Bool.and_self,Bool.and_true,xAn,xAg,xAh,xAf,xAb,xAa] <;> omega) | rfl | decide) only [Int.reduceNeg,xAp,List.length_nil,Nat.sub_zero,pads,List.nil_append,xBi,xAr,xAl,xAz,xDQ,opv,xBj,List.set_cons_zero,xAy,xAs,xAx,xAk,List.set_cons_succ,xAD,xCZ,xZQ,e1,xAQ,↓reduceIte,xBG,AV.cells,List.all_cons,List.length_cons,Nat.zero_add,beq_self_eq_true,List.all_nil,Bool.and_self,List.map_cons,List.map_nil,fillA,Nat.reduceAdd,Nat.reduceLeDiff,AV.isCell,and_self,splice,List.take_zero,List.drop_succ_cons,List.drop_zero,List.cons_append,List.take_succ_cons,Nat.le_refl,List.drop_nil,List.append_nil,Option.map_some,xAA,xBP,List.getD_cons_succ,List.getD_cons_zero,xHH,Nat.reduceMul,xBO,xB0,frzN,List.flatMap_cons,xCK,List.flatMap_nil,List.isEmpty_nil,List.mapM_cons,xBQ,List.mapM_nil,Option.pure_def,Option.bind_eq_bind,Option.bind_some,xCU,yCP,e2,Nat.mul_one,xFh,xBr,xFe,hq,xAN,hs,xAw,xCX,xZS,e4,xCw,xEv,b2,xAE,List.take_nil,xC7,xER,xFs,xGF,xGz,hk2,xB2,t630,xHo,xD7,xGe,xDT,xBR,xFt,xA9,cp2,xES,xCY,xD9,l2',xCJ,Nat.add_zero,fzIds,List.foldl_cons,hm2,List.foldl_nil,List.length_append,List.append_assoc,xLD,List.getElem?_cons_succ,List.getElem?_cons_zero,xGC,yCR,e5,b3,c3a,c3b,hk3,t2560,cp3,l3',hm3,xCV,xAW,xE3,xB1,xHv,xD5,xAY,Nat.reduceBEq,hsn3,xHw,x5,xFj,Option.map_none,xCM,xDW,Int.reduceToNat,xFk,xIf,xEJ,xBu,x2,xBt,f1,xBs,xE0,xAJ,xBb,xAL,x7,xa,xb,xk,f2,xFd,xBc,xIO,t2565,f3,t300,f4,f5,f6,f7,f8,h29,xE2,xBH,xDD,xE6,xAX,xBm,xFb]
end Go.Abs.Tree
