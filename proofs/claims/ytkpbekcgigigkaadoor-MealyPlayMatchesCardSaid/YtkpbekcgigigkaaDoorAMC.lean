/- A heap that is not looked into: words for its reads and xA7; a map's entries that number their keys. -/
import Derived.Test.YtkpbekcgigigkaaDoorAMA
import Derived.Test.YtkpbekcgigigkaaDoorAbsWalk2
import Derived.Test.YtkpbekcgigigkaaDoorAbsBun
import Derived.Test.YtkpbekcgigigkaaDoorAMB
import Derived.Test.YtkpbekcgigigkaaDoorAbsIn
namespace Go.Abs.Mealy
open Go Go.Abs
set_option linter.unusedSimpArgs false
set_option linter.unusedVariables false
section
variable {G l : xAj} {b : Blk} {f : Blk → Blk} {j k n : Nat}
theorem xBY (h : k < G.length) : (G ++ l)[k]? = G[k]? := List.getElem?_append_left h
theorem xEm (h : G.length = n) : (G ++ l)[n + k]? = l[k]? := by subst h; exact xRn G l k
theorem xGh (h : G.length = n) : (G ++ l)[n]? = l[0]? := by subst h; exact xVA G l
theorem xIb (h : k < G.length) : (G ++ l).set k b = G.set k b ++ l := List.set_append_left k b h
theorem xIc (h : G.length = n) : (G ++ l).set (n + k) b = G ++ l.set k b := by subst h; exact xCB G l k b
theorem xId (h : G.length = n) : (G ++ l).set n b = G ++ l.set 0 b := by subst h; exact xVB G l b
theorem xXm (h : k < G.length) : (G ++ l).modify k f = G.modify k f ++ l := by
  apply List.ext_getElem?
  intro i
  by_cases e : i < G.length
  · rw [List.getElem?_append_left (by simpa using e),List.getElem?_modify,List.getElem?_modify,List.getElem?_append_left e]
  · rw [List.getElem?_append_right (by simpa using e),List.getElem?_modify,List.getElem?_append_right (by omega),List.length_modify]
    have : ¬ k = i := by omega
    simp [this]
theorem xBM (h : j ≠ k) : (G.set j b)[k]? = G[k]? := List.getElem?_set_ne h
theorem xEj (h : k < G.length) : (G.set k b)[k]? = some b := List.getElem?_set_self h
theorem xRo (h : j ≠ k) : (G.modify j f)[k]? = G[k]? := by rw [List.getElem?_modify]; simp [h]
theorem xLb {x : Blk} (h : G[k]? = some x) : k < G.length := (List.getElem?_eq_some_iff.1 h).1
end
def xYA (neg : Bool) (H : xAj) : AV → Option (AV × xAj)
  | .nilm => some (.bool (true != neg),H)
  | .mp _ => some (.bool (false != neg),H)
  | _ => none
theorem xIe (neg : Bool) (H : xAj) : xYA neg H .nilm = some (.bool (!neg),H) := by cases neg <;> rfl
theorem xK6 (neg : Bool) (H : xAj) (q : Nat) : xYA neg H (.mp q) = some (.bool neg,H) := by cases neg <;> rfl
theorem xOt (R : Rec) (F : List AV) (H : xAj) (neg : Bool) (x : Arg) : xAa R F H (.mnil neg x) = xYA neg H (opv F x) := rfl
theorem xK7 (R : Rec) (F : List AV) (H : xAj) (ks : List Nat) (c : Bool) (z : AV) (x k : Arg) : xAQ R F H (.mlook ks c z x k) = xDS H (xAa R F H (.mlook ks c z x k)) := xB4 _ rfl
def Kt (B T : Nat) (G G' : xAj) : Prop := G.length ≤ G'.length ∧ ∀ b,b < B → b ≠ T → G'[b]? = G[b]?
theorem Kt.refl (B T : Nat) (G : xAj) : Kt B T G G := ⟨Nat.le_refl _,fun _ _ _ => rfl⟩
theorem Kt.trans {B T : Nat} {G G' G2 : xAj} (h : Kt B T G G') (h2 : Kt B T G' G2) : Kt B T G G2 := ⟨Nat.le_trans h.1 h2.1,fun b hb ht => (h2.2 b hb ht).trans (h.2 b hb ht)⟩
def ent {α : Type} (kv : α → AV) : List α → Nat → List (AV × AV)
  | [],_ => []
  | a :: t,i => (kv a,.int .i64 (i : Nat)) :: ent kv t (i + 1)
def xYB {α : Type} [DecidableEq α] (kv : α → AV) : Prop := ∀ a b,xBN (kv a) (kv b) = some (decide (a = b))
section
variable {α : Type} {kv : α → AV}
variable [DecidableEq α]
def pos (a : α) : List α → Nat
  | [] => 0
  | b :: t => if a = b then 0 else pos a t + 1
theorem xUs {a : α} : ∀ {ks : List α},a ∈ ks → pos a ks < ks.length
  | b :: t,h => by
    unfold pos
    by_cases c : a = b
    · rw [if_pos c]; simp
    · rw [if_neg c]
      have := xUs ((List.mem_cons.1 h).resolve_left c)
      rw [List.length_cons]; omega
theorem xXn {a d : α} : ∀ {ks : List α},a ∈ ks → ks.getD (pos a ks) d = a
  | b :: t,h => by
    unfold pos
    by_cases c : a = b
    · rw [if_pos c]; exact c.symm
    · rw [if_neg c,List.getD_cons_succ]
      exact xXn ((List.mem_cons.1 h).resolve_left c)
theorem xNN {a d : α} : ∀ {ks : List α} {i : Nat},i < pos a ks → ks.getD i d ≠ a
  | [],i,h => absurd h (Nat.not_lt_zero _)
  | b :: t,i,h => by
    unfold pos at h
    by_cases c : a = b
    · rw [if_pos c] at h; exact absurd h (Nat.not_lt_zero _)
    · rw [if_neg c] at h
      cases i with
      | zero => exact fun e => c e.symm
      | succ i => rw [List.getD_cons_succ]; exact xNN (by omega)
theorem xK8 (hk : xYB kv) (a : α) : ∀ (ks : List α) (i : Nat),xFk (kv a) (ent kv ks i) = some (if a ∈ ks then some (.int .i64 ((i + pos a ks : Nat))) else none)
  | [],i => by simp [ent,xFk]
  | b :: t,i => by
    have ih := xK8 hk a t (i + 1)
    rw [ent,xFk,hk a b]
    unfold pos
    by_cases c : a = b
    · subst c
      rw [decide_eq_true rfl]
      simp
    · rw [decide_eq_false c,if_neg c]
      simp only [ih]
      by_cases m : a ∈ t
      · rw [if_pos m,if_pos (List.mem_cons_of_mem _ m),show i + 1 + pos a t = i + (pos a t + 1) by omega]
      · rw [if_neg m,if_neg (by simp [c,m])]
theorem xUt (hk : xYB kv) (a : α) : ∀ (ks : List α) (i : Nat),a ∉ ks → xRV (kv a) (.int .i64 ((i + ks.length : Nat))) (ent kv ks i) = some (ent kv (ks ++ [a]) i)
  | [],i,_ => rfl
  | b :: t,i,h => by
    have ih := xUt hk a t (i + 1) (fun m => h (List.mem_cons_of_mem _ m))
    have c : ¬ a = b := fun e => h (by simp [e])
    rw [List.length_cons,show i + (t.length + 1) = i + 1 + t.length by omega,ent,xRV,hk a b,decide_eq_false c]
    simp only [ih,Option.map_some]
    rfl
end
def kv2 (p : Nat × Nat) : AV := .agg [.int .i64 (p.1 : Nat),.int .i64 (p.2 : Nat)]
theorem xUu : xYB kv2 := by
  intro a b
  obtain ⟨a1,a2⟩ := a
  obtain ⟨b1,b2⟩ := b
  have e : xBN (kv2 (a1,a2)) (kv2 (b1,b2)) = some (((a1 : Int) == (b1 : Int)) && (((a2 : Int) == (b2 : Int)) && true)) := rfl
  rw [e,Bool.and_true]
  congr 1
  by_cases c1 : a1 = b1
  · subst c1
    by_cases c2 : a2 = b2
    · subst c2; simp
    · rw [decide_eq_false (fun h => c2 (by injection h))]
      have : ¬ (a2 : Int) = b2 := by omega
      simp [this]
  · rw [decide_eq_false (fun h => c1 (by injection h))]
    have : ¬ (a1 : Int) = b1 := by omega
    simp [this]
theorem xQu : ∀ (n : Nat) (l : List Nat),l.Nodup → (∀ x ∈ l,x < n) → l.length ≤ n
  | 0,[],_,_ => Nat.le_refl _
  | 0,x :: t,_,h => absurd (h x (by simp)) (by omega)
  | n + 1,l,hd,h => by
    have h1 := xQu n (l.filter (fun x => decide (x ≠ n))) (hd.filter _) (fun x hx => by
      have := List.mem_filter.1 hx
      have h2 := h x this.1
      have h3 := of_decide_eq_true this.2
      omega)
    have h2 : ∀ l : List Nat,l.Nodup → l.length ≤ (l.filter (fun x => decide (x ≠ n))).length + 1 := by
      intro l hd
      induction l with
      | nil => simp
      | cons x t ih =>
        rw [List.nodup_cons] at hd
        by_cases e : x = n
        · subst e
          have : t.filter (fun y => decide (y ≠ x)) = t := List.filter_eq_self.2 fun y hy => by
            simp only [ne_eq,decide_eq_true_eq]
            rintro rfl; exact hd.1 hy
          rw [List.filter_cons_of_neg (by simp),this]; simp
        · have := ih hd.2
          simp [List.filter_cons,e] at this ⊢
          omega
    have := h2 l hd
    omega
theorem xDI {n m : Nat} {l : List (Nat × Nat)} (hd : l.Nodup) (h : ∀ x ∈ l,x.1 < n ∧ x.2 < m) : l.length ≤ n * m := by
  have h1 : (l.map fun x => x.1 * m + x.2).Nodup := by
    rw [List.nodup_iff_pairwise_ne,List.pairwise_map]
    refine List.Pairwise.imp_of_mem ?_ (List.nodup_iff_pairwise_ne.1 hd)
    intro a b ha hb hne e
    have h1 := h a ha
    have h2 := h b hb
    apply hne
    have e1 : a.1 = b.1 := by
      have h3 : (a.1 * m + a.2) / m = a.1 := by rw [Nat.mul_comm,Nat.mul_add_div (by omega),Nat.div_eq_of_lt h1.2]; omega
      have h4 : (b.1 * m + b.2) / m = b.1 := by rw [Nat.mul_comm,Nat.mul_add_div (by omega),Nat.div_eq_of_lt h2.2]; omega
      rw [← h3,← h4,e]
    have e2 : a.2 = b.2 := by rw [e1] at e; omega
    exact Prod.ext e1 e2
  have := xQu (n * m) _ h1 (by
    intro x hx
    obtain ⟨a,ha,rfl⟩ := List.mem_map.1 hx
    have h1 := h a ha
    have : (a.1 + 1) * m ≤ n * m := Nat.mul_le_mul_right m (by omega)
    rw [Nat.add_mul,Nat.one_mul] at this
    omega)
  rwa [List.length_map] at this
def TrI (B T : Nat) (G : xAj) (ks : List (Nat × Nat)) (w : List Nat) : Prop :=
  ∃ mv wv,G[T]? = some (.cells false false [mv,wv]) ∧
    ((mv = .nilm ∧ ks = []) ∨ ∃ q,mv = .mp q ∧ B ≤ q ∧ G[q]? = some (.mp (ent kv2 ks 0))) ∧
    ((wv = .sl true 0 [] ∧ w = []) ∨ ∃ p,wv = .own false p 0 w.length 1 ∧ B ≤ p ∧ G[p]? = some (.cells false false (bs w)))
abbrev xE6 : AV := .agg [.sl true 0 [],.sl true 0 []]
section
variable {B T : Nat} {G : xAj} {ks : List (Nat × Nat)} {w : List Nat} {k : Nat × Nat}
theorem xV5 (hT : T < B) (hB : B ≤ G.length) (h : TrI B T G ks w) (hk : k ∉ ks) (hl : w.length = ks.length) (hw : w.length < 1099511627776) :
    ∃ G',L.icall (.func 68 []) [.ptr T 0,kv2 k] G = some (.tup [xE6,.bool false],G') ∧ TrI B T G' (ks ++ [k]) w ∧ Kt B T G G' := by
  obtain ⟨mv,wv,h1,h2,h3⟩ := h
  obtain ⟨k1,k2⟩ := k
  have hu := xUt xUu (k1,k2) ks 0 hk
  have hf := xK8 xUu (k1,k2) ks 0
  rw [if_neg hk] at hf
  rw [Nat.zero_add,← hl] at hu
  have hG := xLb h1
  have hlen : yAm wv = some (.int .i64 (w.length : Nat)) := by
    rcases h3 with ⟨rfl,rfl⟩ | ⟨p,rfl,hp,hpw⟩ <;> rfl
  have hcell : wv.isCell = true := by
    rcases h3 with ⟨rfl,rfl⟩ | ⟨p,rfl,hp,hpw⟩ <;> rfl
  simp only [kv2] at hu hf ⊢
  rcases h2 with ⟨rfl,rfl⟩ | ⟨q,rfl,hq,hqm⟩
  · have hu' : xRV (.agg [.int .i64 (k1 : Nat),.int .i64 (k2 : Nat)]) (.int .i64 (w.length : Nat)) [] = some (ent kv2 [(k1,k2)] 0) := hu
    refine ⟨G.set T (.cells false false [.mp (G.length + 2),wv]) ++ [.cells false false [.int .i64 (k1 : Nat),.int .i64 (k2 : Nat)],.cells false false [.sl true 0 [],.sl true 0 []],.mp (ent kv2 [(k1,k2)] 0)],?_,⟨.mp (G.length + 2),wv,?_,.inr ⟨G.length + 2,rfl,by omega,?_⟩,?_⟩,?_,?_⟩
    · rw [yAM,a68]
      simp (maxSteps := 30000000) (disch := first | assumption | omega | (simp only [WL,AV.isCell,List.length_modify] <;> omega) | rfl | decide) only [↓reduceIte,WB,xAw,xAc,xAu,xAl,xAk,AV.cells,AV.isCell,xAb,xAd,xAe,WP,xAG,xAy,xBn,xBl,xBg,xAD,xAJ,xAH,WM,W2,xAf,xAg,xAh,Nat.reduceAdd,Nat.reduceSub,Nat.reduceLeDiff,Nat.reduceMul,Int.reduceAdd,Int.reduceSub,Int.reduceMul,Int.reduceLT,Int.reduceLE,Int.reduceEq,Int.reduceToNat,Int.reduceNeg,Nat.reduceEqDiff,Nat.reduceBEq,Nat.reduceLT,xBY,xEm,xGh,xIb,xIc,xId,xXm,xBM,xEj,xRo,List.length_modify,xOt,xIe,xK6,xK7,xFv,xEh,xEi,List.set_set,h1,hu',hlen,hcell,xFk]
    · rw [xBY (by simpa using hG),xEj hG]
    · rw [xEm (by simp)]; rfl
    · rcases h3 with h3 | ⟨p,rfl,hp,hpw⟩
      · exact .inl h3
      · have := xLb hpw
        exact .inr ⟨p,rfl,hp,by rw [xBY (by simpa using this),xBM (by rintro rfl; omega),hpw]⟩
    · simp
    · intro b hb ht
      rw [xBY (by simp; omega),xBM (fun e => ht e.symm)]
  · have hGq := xLb hqm
    refine ⟨G.set q (.mp (ent kv2 (ks ++ [(k1,k2)]) 0)) ++ [.cells false false [.int .i64 (k1 : Nat),.int .i64 (k2 : Nat)],.cells false false [.sl true 0 [],.sl true 0 []]],?_,⟨.mp q,wv,?_,.inr ⟨q,rfl,hq,?_⟩,?_⟩,?_,?_⟩
    · rw [yAM,a68]
      simp (maxSteps := 30000000) (disch := first | assumption | omega | (simp only [WL,AV.isCell,List.length_modify] <;> omega) | rfl | decide) only [↓reduceIte,WB,xAw,xAc,xAu,xAl,xAk,AV.cells,AV.isCell,xAb,xAd,xAe,WP,xAG,xAy,xBn,xBl,xBg,xAD,xAJ,xAH,WM,W2,xAf,xAg,xAh,Nat.reduceAdd,Nat.reduceSub,Nat.reduceLeDiff,Nat.reduceMul,Int.reduceAdd,Int.reduceSub,Int.reduceMul,Int.reduceLT,Int.reduceLE,Int.reduceEq,Int.reduceToNat,Int.reduceNeg,Nat.reduceEqDiff,Nat.reduceBEq,Nat.reduceLT,xBY,xEm,xGh,xIb,xIc,xId,xXm,xBM,xEj,xRo,List.length_modify,xOt,xIe,xK6,xK7,xFv,xEh,xEi,List.set_set,h1,hu,hf,hlen,hqm]
    · rw [xBY (by simpa using hG),xBM (by omega),h1]
    · rw [xBY (by simpa using hGq),xEj hGq]
    · rcases h3 with h3 | ⟨p,rfl,hp,hpw⟩
      · exact .inl h3
      · have := xLb hpw
        exact .inr ⟨p,rfl,hp,by rw [xBY (by simpa using this),xBM (by rintro rfl; rw [hpw] at hqm; cases hqm),hpw]⟩
    · simp
    · intro b hb ht
      rw [xBY (by simp; omega),xBM (by omega)]
theorem xV6 (hT : T < B) (hB : B ≤ G.length) (h : TrI B T G ks w) (hk : k ∈ ks) (hl : w.length = ks.length) (hw : w.length < 1099511627776) :
    ∃ G' a b p' q',L.icall (.func 68 []) [.ptr T 0,kv2 k] G = some (.tup [.agg [.own false a 0 p'.length 1,.own false b 0 q'.length 1],.bool true],G') ∧
      Canon (xAZ (w.take (pos k ks)) (w.drop (pos k ks))) p' q' ∧ B ≤ a ∧ B ≤ b ∧ a ≠ b ∧ G'[a]? = some (.cells false false (bs p')) ∧ G'[b]? = some (.cells false false (bs q')) ∧
      p'.length ≤ w.length ∧ q'.length ≤ w.length ∧ Kt B T G G' := by
  obtain ⟨mv,wv,h1,h2,h3⟩ := h
  have hn := xUs hk
  have hf := xK8 xUu k ks 0
  rw [if_pos hk,Nat.zero_add] at hf
  generalize pos k ks = n at *
  obtain ⟨k1,k2⟩ := k
  have hG := xLb h1
  rcases h2 with ⟨rfl,rfl⟩ | ⟨q,rfl,hq,hqm⟩
  · simp at hn
  rcases h3 with ⟨rfl,rfl⟩ | ⟨p,rfl,hp,hpw⟩
  · simp at hl; omega
  have hGp := xLb hpw
  have hGq := xLb hqm
  have e1 : (w.take n).length = n := by rw [List.length_take]; omega
  have e2 : (w.drop n).length = w.length - n := List.length_drop ..
  obtain ⟨p',q',c1,c2,c3,-,c5⟩ := xT6 false (w.take n) (w.drop n) (by omega) (by omega)
  have e3 : (xAR (w.drop n)).length = w.length - n := by rw [xCO]; omega
  have hn2 : (n : Int) ≤ (w.length : Nat) := by omega
  simp only [las,xBF,e1,e2] at c5
  simp only [kv2] at hf ⊢
  refine ⟨(G.modify p xAk).modify p xAk ++ [.cells false false [.int .i64 (k1 : Nat),.int .i64 (k2 : Nat)],.cells false false [.own false (G.length + 2) 0 p'.length 1,.own false (G.length + 3) 0 q'.length 1],.cells false false (bs p'),.cells false false (bs q')],G.length + 2,G.length + 3,p',q',?_,c1,by omega,by omega,by omega,?_,?_,by omega,by omega,?_,?_⟩
  · rw [yAM,a68]
    simp (maxSteps := 30000000) (disch := first | assumption | omega | (simp only [WL,AV.isCell,List.length_modify] <;> omega) | rfl | decide) only [↓reduceIte,WB,xAw,xAc,xAu,xAl,xAk,AV.cells,AV.isCell,xAb,xAd,xAe,WP,xAG,xAy,xBn,xBl,xBg,xAD,xAJ,xAH,WM,W2,xAf,xAg,xAh,Nat.reduceAdd,Nat.reduceSub,Nat.reduceLeDiff,Nat.reduceMul,Int.reduceAdd,Int.reduceSub,Int.reduceMul,Int.reduceLT,Int.reduceLE,Int.reduceEq,Int.reduceToNat,Int.reduceNeg,Nat.reduceEqDiff,Nat.reduceBEq,Nat.reduceLT,xBY,xEm,xGh,xIb,xIc,xId,xXm,xBM,xEj,xRo,List.length_modify,xOt,xIe,xK6,xK7,xFv,xEh,xEi,List.set_set,h1,hf,hqm,hpw,hn2,c5]
  · rw [xEm (by simp)]; rfl
  · rw [xEm (by simp)]; rfl
  · simp
  · intro b hb ht
    rw [xBY (by simp; omega),xRo (by omega),xRo (by omega)]
end
def nx (M : Ma) (s i : Nat) : Nat := (M.next.getD s []).getD i 0
def em (M : Ma) (s i : Nat) : Nat := (M.emit.getD s []).getD i 0
theorem Vm.nl {M : Ma} (h : Vm M) {s : Nat} (hs : s < M.next.length) : (M.next.getD s []).length = two M.i := h.rl _ (xA5 hs)
theorem Vm.wl' {M : Ma} (h : Vm M) {s : Nat} (hs : s < M.next.length) : (M.emit.getD s []).length = two M.i := h.wl _ (xA5 (by rw [h.el]; exact hs))
theorem Vm.nx {M : Ma} (h : Vm M) {s i : Nat} (hs : s < M.next.length) (hi : i < two M.i) : nx M s i < M.next.length := h.rb _ (xA5 hs) _ (xA5 (by rw [h.nl hs]; exact hi))
theorem Vm.em {M : Ma} (h : Vm M) {s i : Nat} (hs : s < M.next.length) (hi : i < two M.i) : em M s i < two M.o := h.wb _ (xA5 (by rw [h.el]; exact hs)) _ (xA5 (by rw [h.wl' hs]; exact hi))
def nxo (N : Mo) (t o : Nat) : Nat := (N.next.getD t []).getD o 0
def gv (N : Mo) (t : Nat) : Nat := N.give.getD t 0
theorem Vo.nl {N : Mo} (h : Vo N) {s : Nat} (hs : s < N.next.length) : (N.next.getD s []).length = two N.o := h.rl _ (xA5 hs)
theorem Vo.nx {N : Mo} (h : Vo N) {s i : Nat} (hs : s < N.next.length) (hi : i < two N.o) : nxo N s i < N.next.length := h.rb _ (xA5 hs) _ (xA5 (by rw [h.nl hs]; exact hi))
theorem Vo.gv {N : Mo} (h : Vo N) {s : Nat} (hs : s < N.next.length) : gv N s < two N.i := h.gb _ (xA5 (by rw [h.gl]; exact hs))
theorem xYC (a b : Nat) : two a * two b = two (a + b) := (Nat.pow_add 2 a b).symm
def lt2 (a i o : Nat) : Nat := i + o * two a
theorem xUv {a b i o : Nat} (h : a + b ≤ 6) (hi : i < two a) (ho : o < two b) : lt2 a i o < two (a + b) ∧ lt2 a i o < 64 ∧ o * two a < 64 := by
  have h1 : (o + 1) * two a ≤ two b * two a := Nat.mul_le_mul_right _ ho
  rw [xYC,Nat.add_mul,Nat.one_mul,Nat.add_comm b a] at h1
  have h2 := (xF8 h).1
  unfold lt2
  omega
theorem xUw {a b i o : Nat} (h : a + b ≤ 6) (hi : i < two a) (ho : o < two b) : IntKind.u8.wrap ((o : Int) * 2 ^ min a IntKind.u8.bits) = ((o * two a : Nat) : Int) := by
  have h3 := (xUv h hi ho).2.2
  have e : min a IntKind.u8.bits = a := by show min a 8 = a; omega
  rw [e]
  have e2 : (o : Int) * 2 ^ a = ((o * two a : Nat) : Int) := by
    unfold two
    rw [Int.natCast_mul,Int.natCast_pow]; rfl
  rw [e2]
  exact xZw (by omega)
theorem xZ9 {a b i o : Nat} (h : a + b ≤ 6) (hi : i < two a) (ho : o < two b) : xGe .or .u8 (i : Int) ((o * two a : Nat) : Int) = ((lt2 a i o : Nat) : Int) := by
  have h3 := xUv h hi ho
  have h4 := (xF8 (show a ≤ 6 by omega)).1
  rw [or8 (by omega) (by omega)]
  congr 1
  unfold lt2
  have := Nat.shiftLeft_add_eq_or_of_lt (i := a) (b := i) hi o
  rw [Nat.shiftLeft_eq] at this
  unfold two
  rw [Nat.or_comm,← this,Nat.add_comm]
def xRk (M : Ma) (N : Mo) (c : Nat × Nat) : Nat × Nat := (nx M c.1 (gv N c.2),nxo N c.2 (em M c.1 (gv N c.2)))
def xYH (M : Ma) (N : Mo) (c : Nat × Nat) : Nat := lt2 M.i (gv N c.2) (em M c.1 (gv N c.2))
def cfg (M : Ma) (N : Mo) : Nat → Nat × Nat
  | 0 => (M.s,N.s)
  | n + 1 => xRk M N (cfg M N n)
def xEk (M : Ma) (N : Mo) (n : Nat) : List (Nat × Nat) := (List.range n).map (cfg M N)
def xK9 (M : Ma) (N : Mo) (n : Nat) : List Nat := (List.range n).map fun k => xYH M N (cfg M N k)
theorem xDJ (M : Ma) (N : Mo) (n : Nat) : xEk M N (n + 1) = xEk M N n ++ [cfg M N n] := by simp [xEk,List.range_succ]
theorem xNO (M : Ma) (N : Mo) (n : Nat) : xK9 M N (n + 1) = xK9 M N n ++ [xYH M N (cfg M N n)] := by simp [xK9,List.range_succ]
theorem xCt (M : Ma) (N : Mo) (n : Nat) : (xEk M N n).length = n := by simp [xEk]
theorem xDV (M : Ma) (N : Mo) (n : Nat) : (xK9 M N n).length = n := by simp [xK9]
structure Ok2 (M : Ma) (N : Mo) : Prop where
  m : Vm M
  n : Vo N
  i : N.i = M.i
  o : N.o = M.o
theorem xQv {M : Ma} {N : Mo} (h : Ok2 M N) : ∀ k,(cfg M N k).1 < M.next.length ∧ (cfg M N k).2 < N.next.length
  | 0 => ⟨h.m.s,h.n.s⟩
  | k + 1 => by
    have ih := xQv h k
    have h1 := h.n.gv ih.2
    rw [h.i] at h1
    have h2 := h.m.em ih.1 h1
    exact ⟨h.m.nx ih.1 h1,h.n.nx ih.2 (by rw [h.o]; exact h2)⟩
theorem xIf {M : Ma} {N : Mo} (h : Ok2 M N) (n : Nat) : ∀ x ∈ xEk M N n,x.1 < M.next.length ∧ x.2 < N.next.length := by
  intro x hx
  obtain ⟨k,_,rfl⟩ := List.mem_map.1 hx
  exact xQv h k
structure Inv31 (M : Ma) (N : Mo) (G : xAj) (c : Nat × Nat) (ks : List (Nat × Nat)) (w : List Nat) : Prop where
  g0 : G[0]? = some (.cells false false M.cells)
  g1 : G[1]? = some (.cells false false N.cells)
  g2 : G[2]? = some (.cells false false [.sl true 0 [],.sl true 0 []])
  g3 : G[3]? = some (.cells false false [.int .i64 (c.1 : Nat),.int .i64 (c.2 : Nat)])
  tr : TrI 5 4 G ks w
  len : 5 ≤ G.length
theorem TrI.keep {B T : Nat} {G G' : xAj} {ks : List (Nat × Nat)} {w : List Nat} (h : TrI B T G ks w) (hk : ∀ b,b = T ∨ B ≤ b → b < G.length → G'[b]? = G[b]?) : TrI B T G' ks w := by
  obtain ⟨mv,wv,h1,h2,h3⟩ := h
  refine ⟨mv,wv,by rw [hk T (.inl rfl) (xLb h1)]; exact h1,?_,?_⟩
  · rcases h2 with h2 | ⟨q,e,hq,hm⟩
    · exact .inl h2
    · exact .inr ⟨q,e,hq,by rw [hk q (.inr hq) (xLb hm)]; exact hm⟩
  · rcases h3 with h3 | ⟨q,e,hq,hm⟩
    · exact .inl h3
    · exact .inr ⟨q,e,hq,by rw [hk q (.inr hq) (xLb hm)]; exact hm⟩
section
variable {M : Ma} {N : Mo} {G : xAj} {s t : Nat} {ks : List (Nat × Nat)} {w : List Nat}
abbrev F31 : List AV := xON (.ptr 0 0) (.ptr 1 0) (.ptr 2 0) (.int .i64 0) (.ptr 3 0) (.ptr 4 0)
set_option maxHeartbeats 1000000 in
theorem xRl (hO : Ok2 M N) (h : Inv31 M N G (s,t) ks w) (hs : s < M.next.length) (ht : t < N.next.length) (hk : (s,t) ∉ ks) (hl : w.length = ks.length) (hw : w.length < 1099511627) :
    ∃ G',L.loop xFK xOj ⟨F31,G⟩ = L.loop xFK xOj ⟨F31,G'⟩ ∧ Inv31 M N G' (xRk M N (s,t)) (ks ++ [(s,t)]) (w ++ [xYH M N (s,t)]) := by
  obtain ⟨G1,k1,k2,k3⟩ := xV5 (T := 4) (B := 5) (by omega) h.len h.tr hk hl (by omega)
  have g0 := (k3.2 0 (by omega) (by omega)).trans h.g0
  have g1 := (k3.2 1 (by omega) (by omega)).trans h.g1
  have g2 := (k3.2 2 (by omega) (by omega)).trans h.g2
  have g3 := (k3.2 3 (by omega) (by omega)).trans h.g3
  have hlen : 5 ≤ G1.length := by have := h.len; have := k3.1; omega
  have hg3 := h.g3
  obtain ⟨mv,wv,t1,t2,t3⟩ := k2
  have hi : gv N t < two M.i := by have := hO.n.gv ht; rwa [hO.i] at this
  have ho := hO.m.em hs hi
  have hio := hO.m.io
  have l1 := hO.m.nl hs
  have l2 := hO.m.wl' hs
  have l3 := hO.n.nl ht
  have l4 := hO.n.gl
  have l5 := hO.m.el
  rw [hO.o] at l3
  have hsh := xUw hio hi ho
  have hor := xZ9 hio hi ho
  have hnx : xRk M N (s,t) = (nx M s (gv N t),nxo N t (em M s (gv N t))) := rfl
  have hlc : xYH M N (s,t) = lt2 M.i (gv N t) (em M s (gv N t)) := rfl
  rw [hnx,hlc]
  unfold gv at hi ho hsh hor ⊢
  unfold em at ho hsh hor ⊢
  unfold nx nxo
  generalize hI : N.give.getD t 0 = i at *
  generalize hOo : (M.emit.getD s []).getD i 0 = o at *
  unfold Ma.cells at g0
  unfold Mo.cells at g1
  simp only [kv2] at k1
  have hi0 : ¬ ((M.i : Nat) : Int) < 0 := by omega
  rcases t3 with ⟨rfl,rfl⟩ | ⟨p,rfl,hp,hpw⟩
  · refine ⟨(G1.set 4 (.cells false false [mv,.own false (G1.length + 1) 0 1 1])).set 3 (.cells false false [.int .i64 ((M.next.getD s []).getD i 0 : Nat),.int .i64 ((N.next.getD t []).getD o 0 : Nat)]) ++ [.cells false false [.sl true 0 [],.sl true 0 []],.cells false false (bs [lt2 M.i i o])],?_,⟨?_,?_,?_,?_,?_,?_⟩⟩
    · rw [xSe]
      simp (maxSteps := 30000000) (disch := first | assumption | omega | (simp only [WL,AV.isCell] <;> omega) | rfl | decide) only [↓reduceIte,WB,xAw,xAc,xAu,xAl,xAk,AV.cells,AV.isCell,xAb,xAd,xAe,WP,xAG,xAy,xBn,xBl,xBg,xAD,xAJ,xAH,W2,xAf,xAg,xAh,Nat.reduceAdd,Nat.reduceSub,Nat.reduceLeDiff,Nat.reduceMul,Int.reduceAdd,Int.reduceSub,Int.reduceMul,Int.reduceLT,Int.reduceLE,Int.reduceEq,Int.reduceToNat,Int.reduceNeg,Nat.reduceEqDiff,Nat.reduceBEq,Nat.reduceLT,xBY,xEm,xGh,xIb,xIc,xId,xBM,xEj,xCi,xCj,xIn,xOr,List.length_map,List.set_set,xLW,xOO,hg3,k1,g0,g1,g2,g3,t1,l1,l2,l3,l4,l5,hI,hOo,hi,ho,hs,ht,hsh,hor,hi0]
      rfl
    · rw [xBY (by simp; omega),xBM (by omega),xBM (by omega),g0]; rfl
    · rw [xBY (by simp; omega),xBM (by omega),xBM (by omega),g1]; rfl
    · rw [xBY (by simp; omega),xBM (by omega),xBM (by omega),g2]
    · rw [xBY (by simp; omega),xEj (by simp; omega)]
    · refine ⟨mv,.own false (G1.length + 1) 0 1 1,?_,?_,.inr ⟨G1.length + 1,rfl,by omega,?_⟩⟩
      · rw [xBY (by simp; omega),xBM (by omega),xEj (by omega)]
      · rcases t2 with t2 | ⟨q,e,hq,hm⟩
        · exact .inl t2
        · have := xLb hm
          exact .inr ⟨q,e,hq,by rw [xBY (by simp; omega),xBM (by omega),xBM (by omega)]; exact hm⟩
      · rw [xEm (by simp)]; rfl
    · simp; omega
  · have hGp := xLb hpw
    have hp4 : p ≠ 4 := by omega
    have hp3 : p ≠ 3 := by omega
    refine ⟨((G1.set p .dead).set 4 (.cells false false [mv,.own false (G1.length + 1) 0 (w.length + 1) 1])).set 3 (.cells false false [.int .i64 ((M.next.getD s []).getD i 0 : Nat),.int .i64 ((N.next.getD t []).getD o 0 : Nat)]) ++ [.cells false false [.sl true 0 [],.sl true 0 []],.cells false false (bs (w ++ [lt2 M.i i o]))],?_,⟨?_,?_,?_,?_,?_,?_⟩⟩
    · rw [xSe]
      simp (maxSteps := 30000000) (disch := first | assumption | omega | (simp only [WL,AV.isCell] <;> omega) | rfl | decide) only [↓reduceIte,WB,xAw,xAc,xAu,xAl,xAk,AV.cells,AV.isCell,xAb,xAd,xAe,WP,xAG,xAy,xBn,xBl,xBg,xAD,xAJ,xAH,W2,xAf,xAg,xAh,Nat.reduceAdd,Nat.reduceSub,Nat.reduceLeDiff,Nat.reduceMul,Int.reduceAdd,Int.reduceSub,Int.reduceMul,Int.reduceLT,Int.reduceLE,Int.reduceEq,Int.reduceToNat,Int.reduceNeg,Nat.reduceEqDiff,Nat.reduceBEq,Nat.reduceLT,xBY,xEm,xGh,xIb,xIc,xId,xBM,xEj,xCi,xCj,xIn,xOr,List.length_map,List.set_set,xLW,xOO,hg3,k1,g0,g1,g2,g3,t1,hpw,l1,l2,l3,l4,l5,hI,hOo,hi,ho,hs,ht,hsh,hor,hi0]
      rw [xMo]; rfl
    · rw [xBY (by simp; omega),xBM (by omega),xBM (by omega),xBM (by omega),g0]; rfl
    · rw [xBY (by simp; omega),xBM (by omega),xBM (by omega),xBM (by omega),g1]; rfl
    · rw [xBY (by simp; omega),xBM (by omega),xBM (by omega),xBM (by omega),g2]
    · rw [xBY (by simp; omega),xEj (by simp; omega)]
    · refine ⟨mv,.own false (G1.length + 1) 0 (w.length + 1) 1,?_,?_,.inr ⟨G1.length + 1,by simp,by omega,?_⟩⟩
      · rw [xBY (by simp; omega),xBM (by omega),xEj (by simp; omega)]
      · rcases t2 with t2 | ⟨q,e,hq,hm⟩
        · exact .inl t2
        · have := xLb hm
          exact .inr ⟨q,e,hq,by rw [xBY (by simp; omega),xBM (by omega),xBM (by omega),xBM (by rintro rfl; rw [hpw] at hm; cases hm)]; exact hm⟩
      · rw [xEm (by simp)]; rfl
    · simp; omega
theorem xV7 (hO : Ok2 M N) (h : Inv31 M N G (s,t) ks w) (hs : s < M.next.length) (ht : t < N.next.length) (hk : (s,t) ∈ ks) (hl : w.length = ks.length) (hw : w.length < 1099511627) :
    ∃ G' p' q' a b,L.loop xFK xOj ⟨F31,G⟩ = some (.ret,⟨F31,G'⟩) ∧ G'[2]? = some (.cells false false [.own false a 0 p'.length 1,.own false b 0 q'.length 1]) ∧ a ≠ b ∧ 2 < a ∧ 2 < b ∧
      G'[a]? = some (.cells false false (bs p')) ∧ G'[b]? = some (.cells false false (bs q')) ∧ Canon (xAZ (w.take (pos (s,t) ks)) (w.drop (pos (s,t) ks))) p' q' ∧ p'.length ≤ w.length ∧ q'.length ≤ w.length := by
  obtain ⟨G1,a,b,p',q',k1,k2,k3,k4,k5,k6,k7,k8,k9,k10⟩ := xV6 (T := 4) (B := 5) (by omega) h.len h.tr hk hl (by omega)
  have g2 := (k10.2 2 (by omega) (by omega)).trans h.g2
  have hlen : 5 ≤ G1.length := by have := h.len; have := k10.1; omega
  have hg3 := h.g3
  have ha := xLb k6
  have hb := xLb k7
  simp only [kv2] at k1
  refine ⟨G1.set 2 (.cells false false [.own false a 0 p'.length 1,.own false b 0 q'.length 1]) ++ [.cells false false [.own false a 0 p'.length 1,.own false b 0 q'.length 1]],p',q',a,b,?_,?_,k5,by omega,by omega,?_,?_,k2,k8,k9⟩
  · rw [xSe]
    simp (maxSteps := 30000000) (disch := first | assumption | omega | (simp only [WL,AV.isCell] <;> omega) | rfl | decide) only [↓reduceIte,WB,xAw,xAc,xAu,xAl,xAk,AV.cells,AV.isCell,xAb,xAd,xAe,WP,xAG,xAy,xBn,xBl,xBg,xAD,xAJ,xAH,W2,xAf,xAg,xAh,Nat.reduceAdd,Nat.reduceSub,Nat.reduceLeDiff,Nat.reduceMul,Int.reduceAdd,Int.reduceSub,Int.reduceMul,Int.reduceLT,Int.reduceLE,Int.reduceEq,Int.reduceToNat,Int.reduceNeg,Nat.reduceEqDiff,Nat.reduceBEq,Nat.reduceLT,xBY,xEm,xGh,xIb,xIc,xId,xBM,xEj,xCi,xCj,xIn,xOr,List.length_map,List.set_set,xLW,xOO,hg3,k1,g2]
  · rw [xBY (by simp; omega),xEj (by omega)]
  · rw [xBY (by simp; omega),xBM (by omega),k6]
  · rw [xBY (by simp; omega),xBM (by omega),k7]
end
def EndP (M : Ma) (N : Mo) (n : Nat) : Prop := (xEk M N n).Nodup ∧ cfg M N n ∈ xEk M N n
theorem xKm {M : Ma} {N : Mo} {n : Nat} (h : (xEk M N n).Nodup) (hn : cfg M N n ∉ xEk M N n) : (xEk M N (n + 1)).Nodup := by
  rw [xDJ,List.nodup_append]
  refine ⟨h,by simp,fun a ha b hb => ?_⟩
  simp only [List.mem_singleton] at hb
  subst hb
  rintro rfl
  exact hn ha
theorem xNP {M : Ma} {N : Mo} : ∀ {n k : Nat},k ≤ n → (xEk M N n).Nodup → (xEk M N k).Nodup
  | 0,k,h,hd => by
    obtain rfl : k = 0 := by omega
    exact hd
  | n + 1,k,h,hd => by
    by_cases e : k = n + 1
    · subst e; exact hd
    · rw [xDJ,List.nodup_append] at hd
      exact xNP (by omega) hd.1
theorem EndP.uniq {M : Ma} {N : Mo} {n k : Nat} (h : EndP M N n) (h2 : EndP M N k) : n = k := by
  have key : ∀ {n k : Nat},EndP M N n → EndP M N k → ¬ n < k := by
    intro n k h h2 hlt
    have := xNP (show n + 1 ≤ k by omega) h2.1
    rw [xDJ,List.nodup_append] at this
    exact this.2.2 _ h.2 _ (by simp) rfl
  have h1 := key h h2
  have h3 := key h2 h
  omega
section
variable {M : Ma} {N : Mo}
theorem xV8 (hO : Ok2 M N) : ∀ e n G,n + e = M.next.length * N.next.length + 1 → (xEk M N n).Nodup → Inv31 M N G (cfg M N n) (xEk M N n) (xK9 M N n) →
    ∃ n0 G' p' q' a b,EndP M N n0 ∧ L.loop xFK xOj ⟨F31,G⟩ = some (.ret,⟨F31,G'⟩) ∧ G'[2]? = some (.cells false false [.own false a 0 p'.length 1,.own false b 0 q'.length 1]) ∧ a ≠ b ∧ 2 < a ∧ 2 < b ∧
      G'[a]? = some (.cells false false (bs p')) ∧ G'[b]? = some (.cells false false (bs q')) ∧ Canon (xAZ ((xK9 M N n0).take (pos (cfg M N n0) (xEk M N n0))) ((xK9 M N n0).drop (pos (cfg M N n0) (xEk M N n0)))) p' q' ∧ p'.length ≤ n0 ∧ q'.length ≤ n0 := by
  intro e
  induction e with
  | zero =>
    intro n G h hd hI
    have := xDI hd (xIf hO n)
    rw [xCt] at this
    omega
  | succ e ih =>
    intro n G h hd hI
    have hc := xQv hO n
    have hle := xDI hd (xIf hO n)
    rw [xCt] at hle
    have hm := Nat.mul_le_mul hO.m.n9 hO.n.n9
    have hll : (xK9 M N n).length = (xEk M N n).length := by rw [xDV,xCt]
    by_cases hk : cfg M N n ∈ xEk M N n
    · obtain ⟨G',p',q',a,b,k1,k2,k3,k4,k5,k6,k7,k8,k9,k10⟩ := xV7 (s := (cfg M N n).1) (t := (cfg M N n).2) hO hI hc.1 hc.2 hk hll (by rw [xDV]; omega)
      rw [xDV] at k9 k10
      exact ⟨n,G',p',q',a,b,⟨hd,hk⟩,k1,k2,k3,k4,k5,k6,k7,k8,k9,k10⟩
    · obtain ⟨G',k1,k2⟩ := xRl (s := (cfg M N n).1) (t := (cfg M N n).2) hO hI hc.1 hc.2 hk hll (by rw [xDV]; omega)
      rw [k1]
      refine ih (n + 1) G' (by omega) (xKm hd hk) ?_
      rw [xDJ,xNO]
      exact k2
theorem xUx (hO : Ok2 M N) : ∃ n0 p' q',EndP M N n0 ∧ Canon (xAZ ((xK9 M N n0).take (pos (cfg M N n0) (xEk M N n0))) ((xK9 M N n0).drop (pos (cfg M N n0) (xEk M N n0)))) p' q' ∧ p'.length ≤ n0 ∧ q'.length ≤ n0 ∧
    L.pcall 31 [M.av,N.av] = some (.tup [las false false p' q',.int .i64 0]) := by
  have hc1 := xRg hO.m
  have hc2 := xRi hO.n
  have hi := hO.i
  have ho := hO.o
  obtain ⟨n0,G',p',q',a,b,k0,k1,k2,k3,k4,k5,k6,k7,k8,k9,k10⟩ := xV8 hO (M.next.length * N.next.length + 1) 0
    [.cells false false M.cells,.cells false false N.cells,.cells false false [.sl true 0 [],.sl true 0 []],.cells false false [.int .i64 (M.s : Nat),.int .i64 (N.s : Nat)],.cells false false [.nilm,.sl true 0 []]]
    (by omega) (by simp [xEk]) ⟨rfl,rfl,rfl,rfl,⟨.nilm,.sl true 0 [],rfl,.inl ⟨rfl,rfl⟩,.inl ⟨rfl,rfl⟩⟩,by simp⟩
  refine ⟨n0,p',q',k0,k8,k9,k10,?_⟩
  unfold Ma.av at hc1 ⊢
  unfold Mo.av at hc2 ⊢
  unfold Ma.cells at hc1 k1 ⊢
  unfold Mo.cells at hc2 k1 ⊢
  rw [hi,ho] at hc2 k1 ⊢
  rw [yAk,a31,xAm]
  simp (maxSteps := 30000000) (disch := first | assumption | omega | (simp only [WL,AV.isCell] <;> omega) | rfl | decide) only [↓reduceIte,WB,xAw,xAc,xAu,xAl,xAk,AV.cells,AV.isCell,xAb,xAd,xAe,WP,xAG,xAy,xBn,xBl,xBg,xAD,xAJ,xAH,W2,xAf,xAg,xAh,Nat.reduceAdd,Nat.reduceSub,Nat.reduceLeDiff,Nat.reduceMul,Int.reduceAdd,Int.reduceSub,Int.reduceMul,Int.reduceLT,Int.reduceLE,Int.reduceEq,Int.reduceToNat,Int.reduceNeg,Nat.reduceEqDiff,Nat.reduceBEq,Nat.reduceLT,xBY,xEm,xGh,xIb,xIc,xId,xBM,xEj,List.length_map,xOO,hc1,hc2,k1,k2,k6,k7]
theorem xUy {m : Mf} {n : Nf} (hS : Sm m) (h : xKc m ≠ 0) : L.pcall 31 [m.av,n.av] = some (.tup [xE6,.int .i64 (xKc m)]) := by
  have hc := xK0 hS
  generalize xKc m = e at *
  unfold Mf.av at hc ⊢
  unfold Nf.av
  unfold Mf.cells at hc ⊢
  unfold Nf.cells
  rw [yAk,a31,xAm]
  simp (maxSteps := 30000000) (disch := first | assumption | omega | (simp only [WL,AV.isCell] <;> omega) | rfl | decide) only [↓reduceIte,WB,xAw,xAc,xAu,xAl,xAk,AV.cells,AV.isCell,xAb,xAd,xAe,WP,xAG,xAy,xBn,xBl,xBg,xAD,xAJ,xAH,W2,xAf,xAg,xAh,Nat.reduceAdd,Nat.reduceSub,Nat.reduceLeDiff,Nat.reduceMul,Int.reduceAdd,Int.reduceSub,Int.reduceMul,Int.reduceLT,Int.reduceLE,Int.reduceEq,Int.reduceToNat,Int.reduceNeg,Nat.reduceEqDiff,Nat.reduceBEq,Nat.reduceLT,xBY,xEm,xGh,xIb,xIc,xId,xBM,xEj,List.length_map,hc,h]
theorem xUz {m : Mf} {n : Nf} (hS : Sm m) (hN : SmN n) (h : xKc m = 0) (h2 : xK2 n ≠ 0) : L.pcall 31 [m.av,n.av] = some (.tup [xE6,.int .i64 (xK2 n)]) := by
  have hc := xK0 hS
  have hc2 := xK3 hN
  unfold Nf.av Nf.cells at hc2
  rw [h] at hc
  generalize xK2 n = e at *
  unfold Mf.av at hc ⊢
  unfold Nf.av
  unfold Mf.cells at hc ⊢
  unfold Nf.cells
  rw [yAk,a31,xAm]
  simp (maxSteps := 30000000) (disch := first | assumption | omega | (simp only [WL,AV.isCell] <;> omega) | rfl | decide) only [↓reduceIte,WB,xAw,xAc,xAu,xAl,xAk,AV.cells,AV.isCell,xAb,xAd,xAe,WP,xAG,xAy,xBn,xBl,xBg,xAD,xAJ,xAH,W2,xAf,xAg,xAh,Nat.reduceAdd,Nat.reduceSub,Nat.reduceLeDiff,Nat.reduceMul,Int.reduceAdd,Int.reduceSub,Int.reduceMul,Int.reduceLT,Int.reduceLE,Int.reduceEq,Int.reduceToNat,Int.reduceNeg,Nat.reduceEqDiff,Nat.reduceBEq,Nat.reduceLT,xBY,xEm,xGh,xIb,xIc,xId,xBM,xEj,List.length_map,hc,hc2,h2]
theorem xUA {m : Mf} {n : Nf} (hS : Sm m) (hN : SmN n) (h : xKc m = 0) (h2 : xK2 n = 0) (h3 : ¬ (m.i = n.i ∧ m.o = n.o)) : L.pcall 31 [m.av,n.av] = some (.tup [xE6,.int .i64 16]) := by
  have hc := xK0 hS
  have hc2 := xK3 hN
  unfold Nf.av Nf.cells at hc2
  rw [h] at hc
  rw [h2] at hc2
  unfold Mf.av at hc ⊢
  unfold Nf.av
  unfold Mf.cells at hc ⊢
  unfold Nf.cells
  rw [yAk,a31,xAm]
  by_cases c : m.i = n.i
  · have c' : ((m.o : Int) = n.o) = False := eq_false (fun e => h3 ⟨c,e⟩)
    rw [c] at hc ⊢
    simp (maxSteps := 30000000) (disch := first | assumption | omega | (simp only [WL,AV.isCell] <;> omega) | rfl | decide) only [↓reduceIte,WB,xAw,xAc,xAu,xAl,xAk,AV.cells,AV.isCell,xAb,xAd,xAe,WP,xAG,xAy,xBn,xBl,xBg,xAD,xAJ,xAH,W2,xAf,xAg,xAh,Nat.reduceAdd,Nat.reduceSub,Nat.reduceLeDiff,Nat.reduceMul,Int.reduceAdd,Int.reduceSub,Int.reduceMul,Int.reduceLT,Int.reduceLE,Int.reduceEq,Int.reduceToNat,Int.reduceNeg,Nat.reduceEqDiff,Nat.reduceBEq,Nat.reduceLT,xBY,xEm,xGh,xIb,xIc,xId,xBM,xEj,List.length_map,hc,hc2,c']
  · simp (maxSteps := 30000000) (disch := first | assumption | omega | (simp only [WL,AV.isCell] <;> omega) | rfl | decide) only [↓reduceIte,WB,xAw,xAc,xAu,xAl,xAk,AV.cells,AV.isCell,xAb,xAd,xAe,WP,xAG,xAy,xBn,xBl,xBg,xAD,xAJ,xAH,W2,xAf,xAg,xAh,Nat.reduceAdd,Nat.reduceSub,Nat.reduceLeDiff,Nat.reduceMul,Int.reduceAdd,Int.reduceSub,Int.reduceMul,Int.reduceLT,Int.reduceLE,Int.reduceEq,Int.reduceToNat,Int.reduceNeg,Nat.reduceEqDiff,Nat.reduceBEq,Nat.reduceLT,xBY,xEm,xGh,xIb,xIc,xId,xBM,xEj,List.length_map,hc,hc2,c]
theorem xUB {m : Mf} {n : Nf} (hS : Sm m) (h : xKc m ≠ 0) : L.pcall 32 [m.av,n.av] = some (.tup [xE6,.int .i64 (xKc m)]) := by
  have hc := xK1 hS
  generalize xKc m = e at *
  unfold Mf.av at hc ⊢
  unfold Nf.av
  unfold Mf.cells at hc ⊢
  unfold Nf.cells
  rw [yAl,a32,xAm]
  simp (maxSteps := 30000000) (disch := first | assumption | omega | (simp only [WL,AV.isCell] <;> omega) | rfl | decide) only [↓reduceIte,WB,xAw,xAc,xAu,xAl,xAk,AV.cells,AV.isCell,xAb,xAd,xAe,WP,xAG,xAy,xBn,xBl,xBg,xAD,xAJ,xAH,W2,xAf,xAg,xAh,Nat.reduceAdd,Nat.reduceSub,Nat.reduceLeDiff,Nat.reduceMul,Int.reduceAdd,Int.reduceSub,Int.reduceMul,Int.reduceLT,Int.reduceLE,Int.reduceEq,Int.reduceToNat,Int.reduceNeg,Nat.reduceEqDiff,Nat.reduceBEq,Nat.reduceLT,xBY,xEm,xGh,xIb,xIc,xId,xBM,xEj,List.length_map,hc,h]
theorem xUC {m : Mf} {n : Nf} (hS : Sm m) (hN : SmN n) (h : xKc m = 0) (h2 : xK2 n ≠ 0) : L.pcall 32 [m.av,n.av] = some (.tup [xE6,.int .i64 (xK2 n)]) := by
  have hc := xK1 hS
  have hc2 := xK4 hN
  unfold Nf.av Nf.cells at hc2
  rw [h] at hc
  generalize xK2 n = e at *
  unfold Mf.av at hc ⊢
  unfold Nf.av
  unfold Mf.cells at hc ⊢
  unfold Nf.cells
  rw [yAl,a32,xAm]
  simp (maxSteps := 30000000) (disch := first | assumption | omega | (simp only [WL,AV.isCell] <;> omega) | rfl | decide) only [↓reduceIte,WB,xAw,xAc,xAu,xAl,xAk,AV.cells,AV.isCell,xAb,xAd,xAe,WP,xAG,xAy,xBn,xBl,xBg,xAD,xAJ,xAH,W2,xAf,xAg,xAh,Nat.reduceAdd,Nat.reduceSub,Nat.reduceLeDiff,Nat.reduceMul,Int.reduceAdd,Int.reduceSub,Int.reduceMul,Int.reduceLT,Int.reduceLE,Int.reduceEq,Int.reduceToNat,Int.reduceNeg,Nat.reduceEqDiff,Nat.reduceBEq,Nat.reduceLT,xBY,xEm,xGh,xIb,xIc,xId,xBM,xEj,List.length_map,hc,hc2,h2]
theorem xUD {m : Mf} {n : Nf} (hS : Sm m) (hN : SmN n) (h : xKc m = 0) (h2 : xK2 n = 0) (h3 : ¬ (m.i = n.i ∧ m.o = n.o)) : L.pcall 32 [m.av,n.av] = some (.tup [xE6,.int .i64 16]) := by
  have hc := xK1 hS
  have hc2 := xK4 hN
  unfold Nf.av Nf.cells at hc2
  rw [h] at hc
  rw [h2] at hc2
  unfold Mf.av at hc ⊢
  unfold Nf.av
  unfold Mf.cells at hc ⊢
  unfold Nf.cells
  rw [yAl,a32,xAm]
  by_cases c : m.i = n.i
  · have c' : ((m.o : Int) = n.o) = False := eq_false (fun e => h3 ⟨c,e⟩)
    rw [c] at hc ⊢
    simp (maxSteps := 30000000) (disch := first | assumption | omega | (simp only [WL,AV.isCell] <;> omega) | rfl | decide) only [↓reduceIte,WB,xAw,xAc,xAu,xAl,xAk,AV.cells,AV.isCell,xAb,xAd,xAe,WP,xAG,xAy,xBn,xBl,xBg,xAD,xAJ,xAH,W2,xAf,xAg,xAh,Nat.reduceAdd,Nat.reduceSub,Nat.reduceLeDiff,Nat.reduceMul,Int.reduceAdd,Int.reduceSub,Int.reduceMul,Int.reduceLT,Int.reduceLE,Int.reduceEq,Int.reduceToNat,Int.reduceNeg,Nat.reduceEqDiff,Nat.reduceBEq,Nat.reduceLT,xBY,xEm,xGh,xIb,xIc,xId,xBM,xEj,List.length_map,hc,hc2,c']
  · simp (maxSteps := 30000000) (disch := first | assumption | omega | (simp only [WL,AV.isCell] <;> omega) | rfl | decide) only [↓reduceIte,WB,xAw,xAc,xAu,xAl,xAk,AV.cells,AV.isCell,xAb,xAd,xAe,WP,xAG,xAy,xBn,xBl,xBg,xAD,xAJ,xAH,W2,xAf,xAg,xAh,Nat.reduceAdd,Nat.reduceSub,Nat.reduceLeDiff,Nat.reduceMul,Int.reduceAdd,Int.reduceSub,Int.reduceMul,Int.reduceLT,Int.reduceLE,Int.reduceEq,Int.reduceToNat,Int.reduceNeg,Nat.reduceEqDiff,Nat.reduceBEq,Nat.reduceLT,xBY,xEm,xGh,xIb,xIc,xId,xBM,xEj,List.length_map,hc,hc2,c]
end
theorem xF9 : (true != false) = true := rfl
theorem xGa : (false != false) = false := rfl
def yAq (c : Nat × Nat) : List AV := [.int .i64 (c.1 : Nat),.int .i64 (c.2 : Nat)]
def pcs (l : List (Nat × Nat)) : List AV := rows yAq l
theorem xAN (l : List (Nat × Nat)) : (pcs l).length = l.length * 2 := xH7 (enc := yAq) (k := 2) (fun _ => rfl) l
theorem xGb {l : List (Nat × Nat)} {i : Nat} (h : i < l.length) : List.take 2 (List.drop (i * 2) (pcs l)) = [.int .i64 ((l.getD i (0,0)).1 : Nat),.int .i64 ((l.getD i (0,0)).2 : Nat)] := by
  unfold pcs
  rw [xH8 (enc := yAq) (k := 2) (fun _ => rfl),List.drop_eq_getElem_cons h]
  have : l.getD i (0,0) = l[i] := by simp [List.getD,List.getElem?_eq_getElem h]
  rw [this]
  rfl
theorem xV9 (l : List (Nat × Nat)) (c : Nat × Nat) : pcs l ++ [.int .i64 (c.1 : Nat),.int .i64 (c.2 : Nat)] = pcs (l ++ [c]) := xV4 yAq l [c]
theorem xIg (d : Nat) (H : xAj) (l : List (Nat × Nat)) : (pcs l).mapM (frz d H) = some (pcs l) := by
  induction l with
  | nil => rfl
  | cons c l ih =>
    have : pcs (c :: l) = .int .i64 (c.1 : Nat) :: .int .i64 (c.2 : Nat) :: pcs l := rfl
    rw [this,List.mapM_cons,List.mapM_cons,xEg,xEg]
    simp [ih]
theorem xIh (d : Nat) (H : xAj) (l : List (Nat × Nat)) : (pcs l).flatMap (bor d H) = [] := by
  induction l with
  | nil => rfl
  | cons c l ih =>
    have : pcs (c :: l) = .int .i64 (c.1 : Nat) :: .int .i64 (c.2 : Nat) :: pcs l := rfl
    rw [this,List.flatMap_cons,List.flatMap_cons,xDE,xDE,ih]; rfl
theorem yBk (a b s t : Nat) : xBk [.int .i64 (a : Nat),.int .i64 (b : Nat)] [.int .i64 (s : Nat),.int .i64 (t : Nat)] = some (decide ((a,b) = (s,t))) := by
  have e : xBk [.int .i64 (a : Nat),.int .i64 (b : Nat)] [.int .i64 (s : Nat),.int .i64 (t : Nat)] = some (((a : Int) == (s : Int)) && (((b : Int) == (t : Int)) && true)) := rfl
  rw [e,Bool.and_true]
  congr 1
  by_cases c1 : a = s
  · subst c1
    by_cases c2 : b = t
    · subst c2; simp
    · rw [decide_eq_false (fun h => c2 (by injection h))]
      have : ¬ (b : Int) = t := by omega
      simp [this]
  · rw [decide_eq_false (fun h => c1 (by injection h))]
    have : ¬ (a : Int) = s := by omega
    simp [this]
def Prs (B : Nat) (G : xAj) (v : AV) (ks : List (Nat × Nat)) : Prop := (v = .sl true 0 [] ∧ ks = []) ∨ ∃ p,v = .own false p 0 ks.length 2 ∧ B ≤ p ∧ G[p]? = some (.cells false false (pcs ks))
def Wrs (B : Nat) (G : xAj) (v : AV) (w : List Nat) : Prop := (v = .sl true 0 [] ∧ w = []) ∨ ∃ p,v = .own false p 0 w.length 1 ∧ B ≤ p ∧ G[p]? = some (.cells false false (bs w))
section
variable {M : Ma} {N : Mo} {G : xAj} {s t : Nat} {ks : List (Nat × Nat)} {w : List Nat} {wv pv : AV}
abbrev F32 (s t : Nat) (wv pv : AV) (k : Nat) : List AV := xOP (.ptr 0 0) (.ptr 1 0) (.ptr 2 0) (.int .i64 0) (.int .i64 (s : Nat)) (.int .i64 (t : Nat)) wv pv (.int .i64 (k : Nat))
theorem xUE (hp : Prs 3 G pv ks) (hk : (s,t) ∉ ks) (hl : ks.length < 1099511627) : ∀ e i,i + e = ks.length →
    L.loop xIY xSf ⟨F32 s t wv pv i,G⟩ = some (.exit 2,⟨F32 s t wv pv ks.length,G⟩) := by
  intro e
  induction e with
  | zero =>
    intro i h
    obtain rfl : i = ks.length := by omega
    rcases hp with ⟨rfl,rfl⟩ | ⟨p,rfl,hp,hpk⟩
    · rw [xLX]
      simp (maxSteps := 30000000) (disch := first | assumption | omega | (simp only [WL,AV.isCell,xAN] <;> omega) | rfl | decide) only [↓reduceIte,WB,xAw,xAc,xAu,xAl,xAk,AV.cells,AV.isCell,xAb,xAd,xAe,WP,xAG,xAy,xBn,xBl,xBg,xAD,xAJ,xAH,W2,xAf,xAg,xAh,Nat.reduceAdd,Nat.reduceSub,Nat.reduceLeDiff,Nat.reduceMul,Int.reduceAdd,Int.reduceSub,Int.reduceMul,Int.reduceLT,Int.reduceLE,Int.reduceEq,Int.reduceToNat,Int.reduceNeg,Nat.reduceEqDiff,Nat.reduceBEq,Nat.reduceLT,xBY,xEm,xGh,xIb,xIc,xId,xBM,xEj,xXm,xRo,xCi,xCj,xIn,xOr,List.length_map,xGb,xAN,xIg,xIh,xF9,xGa,xG2,xFL]
      rfl
    · rw [xLX]
      simp (maxSteps := 30000000) (disch := first | assumption | omega | (simp only [WL,AV.isCell,xAN] <;> omega) | rfl | decide) only [↓reduceIte,WB,xAw,xAc,xAu,xAl,xAk,AV.cells,AV.isCell,xAb,xAd,xAe,WP,xAG,xAy,xBn,xBl,xBg,xAD,xAJ,xAH,W2,xAf,xAg,xAh,Nat.reduceAdd,Nat.reduceSub,Nat.reduceLeDiff,Nat.reduceMul,Int.reduceAdd,Int.reduceSub,Int.reduceMul,Int.reduceLT,Int.reduceLE,Int.reduceEq,Int.reduceToNat,Int.reduceNeg,Nat.reduceEqDiff,Nat.reduceBEq,Nat.reduceLT,xBY,xEm,xGh,xIb,xIc,xId,xBM,xEj,xXm,xRo,xCi,xCj,xIn,xOr,List.length_map,xGb,xAN,xIg,xIh,xF9,xGa,xG2,xFL]
  | succ e ih =>
    intro i h
    have hlt : (i : Int) < (ks.length : Nat) := by omega
    have ih' := ih (i + 1) (by omega)
    rcases hp with ⟨rfl,rfl⟩ | ⟨p,rfl,hp,hpk⟩
    · simp at h
    · have hne : ks.getD i (0,0) ≠ (s,t) := fun e => hk (e ▸ xA5 (by omega))
      have he := yBk (ks.getD i (0,0)).1 (ks.getD i (0,0)).2 s t
      rw [decide_eq_false (show ¬ ((ks.getD i (0,0)).1,(ks.getD i (0,0)).2) = (s,t) from hne)] at he
      rw [xLX]
      simp (maxSteps := 30000000) (disch := first | assumption | omega | (simp only [WL,AV.isCell,xAN] <;> omega) | rfl | decide) only [↓reduceIte,WB,xAw,xAc,xAu,xAl,xAk,AV.cells,AV.isCell,xAb,xAd,xAe,WP,xAG,xAy,xBn,xBl,xBg,xAD,xAJ,xAH,W2,xAf,xAg,xAh,Nat.reduceAdd,Nat.reduceSub,Nat.reduceLeDiff,Nat.reduceMul,Int.reduceAdd,Int.reduceSub,Int.reduceMul,Int.reduceLT,Int.reduceLE,Int.reduceEq,Int.reduceToNat,Int.reduceNeg,Nat.reduceEqDiff,Nat.reduceBEq,Nat.reduceLT,xBY,xEm,xGh,xIb,xIc,xId,xBM,xEj,xXm,xRo,xCi,xCj,xIn,xOr,List.length_map,xGb,xAN,xIg,xIh,xF9,xGa,xG2,xFL,hlt,hpk,he,ih']
theorem xRm (hp : Prs 3 G pv ks) (hw : Wrs 3 G wv w) (hk : (s,t) ∈ ks) (hl : ks.length < 1099511627) (hlw : w.length = ks.length) (g2 : G[2]? = some (.cells false false [.sl true 0 [],.sl true 0 []])) (hG : 3 ≤ G.length) : ∀ e i,i + e = pos (s,t) ks →
    ∃ G' z p' q',L.loop xIY xSf ⟨F32 s t wv pv i,G⟩ = some (.ret,⟨F32 s t wv pv (pos (s,t) ks),G'⟩) ∧ G'[2]? = some (.cells false false [xBF z p',xBF false q']) ∧
      Canon (xAZ (w.take (pos (s,t) ks)) (w.drop (pos (s,t) ks))) p' q' := by
  have hpl := xUs hk
  have hpa := xXn (d := (0,0)) hk
  rcases hp with ⟨rfl,rfl⟩ | ⟨p,rfl,hp,hpk⟩
  · simp at hpl
  rcases hw with ⟨rfl,rfl⟩ | ⟨p2,rfl,hp2,hpw⟩
  · simp at hlw; omega
  have hGp := xLb hpw
  intro e
  induction e with
  | zero =>
    intro i h
    obtain rfl : i = pos (s,t) ks := by omega
    generalize pos (s,t) ks = i at *
    have hlt : (i : Int) < (ks.length : Nat) := by omega
    have he := yBk (ks.getD i (0,0)).1 (ks.getD i (0,0)).2 s t
    rw [decide_eq_true (show ((ks.getD i (0,0)).1,(ks.getD i (0,0)).2) = (s,t) from hpa)] at he
    have e1 : (w.take i).length = i := by rw [List.length_take]; omega
    have e2 : (w.drop i).length = w.length - i := List.length_drop ..
    obtain ⟨z,p',q',c1,c2⟩ := xT8 false false (w.take i) (w.drop i) (by omega) (by omega)
    simp only [las,xBF,e1,e2] at c2
    have hiw : (i : Int) ≤ (w.length : Nat) := by omega
    refine ⟨((G.modify p2 xAk).modify p2 xAk).set 2 (.cells false false [xBF z p',xBF false q']),z,p',q',?_,?_,c1⟩
    · have hm2 : ((G.modify p2 xAk).modify p2 xAk)[2]? = some (.cells false false [.sl true 0 [],.sl true 0 []]) := by rw [xRo (by omega),xRo (by omega),g2]
      rw [xLX]
      simp (maxSteps := 30000000) (disch := first | assumption | omega | (simp only [WL,AV.isCell,xAN] <;> omega) | rfl | decide) only [↓reduceIte,WB,xAw,xAc,xAu,xAl,xAk,AV.cells,AV.isCell,xAb,xAd,xAe,WP,xAG,xAy,xBn,xBl,xBg,xAD,xAJ,xAH,W2,xAf,xAg,xAh,Nat.reduceAdd,Nat.reduceSub,Nat.reduceLeDiff,Nat.reduceMul,Int.reduceAdd,Int.reduceSub,Int.reduceMul,Int.reduceLT,Int.reduceLE,Int.reduceEq,Int.reduceToNat,Int.reduceNeg,Nat.reduceEqDiff,Nat.reduceBEq,Nat.reduceLT,xBY,xEm,xGh,xIb,xIc,xId,xBM,xEj,xXm,xRo,xCi,xCj,xIn,xOr,List.length_map,xGb,xAN,xIg,xIh,xF9,xGa,xG2,xFL,hlt,hpk,hpw,he,hiw,c2,hm2,List.length_modify]
    · rw [xEj (by simp; omega)]
  | succ e ih =>
    intro i h
    have hlt : (i : Int) < (ks.length : Nat) := by omega
    obtain ⟨G',z,p',q',i1,i2,i3⟩ := ih (i + 1) (by omega)
    refine ⟨G',z,p',q',?_,i2,i3⟩
    have hne : ks.getD i (0,0) ≠ (s,t) := xNN (by omega)
    have he := yBk (ks.getD i (0,0)).1 (ks.getD i (0,0)).2 s t
    rw [decide_eq_false (show ¬ ((ks.getD i (0,0)).1,(ks.getD i (0,0)).2) = (s,t) from hne)] at he
    rw [xLX]
    simp (maxSteps := 30000000) (disch := first | assumption | omega | (simp only [WL,AV.isCell,xAN] <;> omega) | rfl | decide) only [↓reduceIte,WB,xAw,xAc,xAu,xAl,xAk,AV.cells,AV.isCell,xAb,xAd,xAe,WP,xAG,xAy,xBn,xBl,xBg,xAD,xAJ,xAH,W2,xAf,xAg,xAh,Nat.reduceAdd,Nat.reduceSub,Nat.reduceLeDiff,Nat.reduceMul,Int.reduceAdd,Int.reduceSub,Int.reduceMul,Int.reduceLT,Int.reduceLE,Int.reduceEq,Int.reduceToNat,Int.reduceNeg,Nat.reduceEqDiff,Nat.reduceBEq,Nat.reduceLT,xBY,xEm,xGh,xIb,xIc,xId,xBM,xEj,xXm,xRo,xCi,xCj,xIn,xOr,List.length_map,xGb,xAN,xIg,xIh,xF9,xGa,xG2,xFL,hlt,hpk,he,i1]
end
theorem xYD (l : List (Nat × Nat)) : List.take (l.length * 2) (pcs l) = pcs l := List.take_of_length_le (by rw [xAN]; exact Nat.le_refl _)
structure Inv32 (M : Ma) (N : Mo) (G : xAj) (wv pv : AV) (ks : List (Nat × Nat)) (w : List Nat) : Prop where
  g0 : G[0]? = some (.cells false false M.cells)
  g1 : G[1]? = some (.cells false false N.cells)
  g2 : G[2]? = some (.cells false false [.sl true 0 [],.sl true 0 []])
  pw : (pv = .sl true 0 [] ∧ wv = .sl true 0 [] ∧ ks = [] ∧ w = []) ∨ ∃ p p2,pv = .own false p 0 ks.length 2 ∧ wv = .own false p2 0 w.length 1 ∧ 3 ≤ p ∧ 3 ≤ p2 ∧ p ≠ p2 ∧ G[p]? = some (.cells false false (pcs ks)) ∧ G[p2]? = some (.cells false false (bs w))
  len : 3 ≤ G.length
theorem Inv32.ps {M : Ma} {N : Mo} {G : xAj} {wv pv : AV} {ks : List (Nat × Nat)} {w : List Nat} (h : Inv32 M N G wv pv ks w) : Prs 3 G pv ks := by
  rcases h.pw with ⟨a,b,c,d⟩ | ⟨p,p2,a,b,c,d,e,f,g⟩
  · exact .inl ⟨a,c⟩
  · exact .inr ⟨p,a,c,f⟩
theorem Inv32.wr {M : Ma} {N : Mo} {G : xAj} {wv pv : AV} {ks : List (Nat × Nat)} {w : List Nat} (h : Inv32 M N G wv pv ks w) : Wrs 3 G wv w := by
  rcases h.pw with ⟨a,b,c,d⟩ | ⟨p,p2,a,b,c,d,e,f,g⟩
  · exact .inl ⟨b,d⟩
  · exact .inr ⟨p2,b,d,g⟩
section
variable {M : Ma} {N : Mo} {G : xAj} {s t : Nat} {ks : List (Nat × Nat)} {w : List Nat} {wv pv : AV}
abbrev yAa (s t : Nat) (wv pv : AV) : List AV := xOQ (.ptr 0 0) (.ptr 1 0) (.ptr 2 0) (.int .i64 0) (.int .i64 (s : Nat)) (.int .i64 (t : Nat)) wv pv
set_option maxHeartbeats 1000000 in
theorem xOu (hO : Ok2 M N) (h : Inv32 M N G wv pv ks w) (hs : s < M.next.length) (ht : t < N.next.length) (hk : (s,t) ∉ ks) (hl : w.length = ks.length) (hw : w.length < 1099511627) :
    ∃ G' wv' pv',L.loop xG3 xQ1 ⟨yAa s t wv pv,G⟩ = L.loop xG3 xQ1 ⟨yAa (xRk M N (s,t)).1 (xRk M N (s,t)).2 wv' pv',G'⟩ ∧ Inv32 M N G' wv' pv' (ks ++ [(s,t)]) (w ++ [xYH M N (s,t)]) := by
  have hsn := xUE (wv := wv) h.ps hk (by omega) ks.length 0 (by omega)
  unfold F32 at hsn
  simp only [Int.natCast_zero] at hsn
  have g0 := h.g0
  have g1 := h.g1
  have g2 := h.g2
  have hlen := h.len
  have hi : gv N t < two M.i := by have := hO.n.gv ht; rwa [hO.i] at this
  have ho := hO.m.em hs hi
  have hio := hO.m.io
  have l1 := hO.m.nl hs
  have l2 := hO.m.wl' hs
  have l3 := hO.n.nl ht
  have l4 := hO.n.gl
  have l5 := hO.m.el
  rw [hO.o] at l3
  have hsh := xUw hio hi ho
  have hlt := xUv hio hi ho
  have hnx : xRk M N (s,t) = (nx M s (gv N t),nxo N t (em M s (gv N t))) := rfl
  have hlc : xYH M N (s,t) = lt2 M.i (gv N t) (em M s (gv N t)) := rfl
  rw [hnx,hlc]
  unfold gv at hi ho hsh hlt ⊢
  unfold em at ho hsh hlt ⊢
  unfold nx nxo
  generalize hI : N.give.getD t 0 = i at *
  generalize hOo : (M.emit.getD s []).getD i 0 = o at *
  unfold lt2 at *
  obtain ⟨hlt1,hlt2,hlt3⟩ := hlt
  unfold Ma.cells at g0
  unfold Mo.cells at g1
  have hi0 : ¬ ((M.i : Nat) : Int) < 0 := by omega
  have hcast : (i : Int) + ((o * two M.i : Nat) : Int) = ((i + o * two M.i : Nat) : Int) := yAP _ _
  have hwr : IntKind.u8.wrap ((i + o * two M.i : Nat) : Int) = ((i + o * two M.i : Nat) : Int) := xZw (by omega)
  generalize hom : o * two M.i = om at *
  rcases h.pw with ⟨rfl,rfl,rfl,rfl⟩ | ⟨p,p2,rfl,rfl,hp,hp2,hne,hpk,hpw⟩
  · refine ⟨G ++ [.cells false false (pcs [(s,t)]),.cells false false (bs [i + om])],.own false (G.length + 1) 0 1 1,.own false G.length 0 1 2,?_,⟨?_,?_,?_,?_,?_⟩⟩
    · rw [xSg]
      simp (maxSteps := 30000000) (disch := first | assumption | omega | (simp only [WL,AV.isCell,xAN] <;> omega) | rfl | decide) only [↓reduceIte,WB,xAw,xAc,xAu,xAl,xAk,AV.cells,AV.isCell,xAb,xAd,xAe,WP,xAG,xAy,xBn,xBl,xBg,xAD,xAJ,xAH,W2,xAf,xAg,xAh,Nat.reduceAdd,Nat.reduceSub,Nat.reduceLeDiff,Nat.reduceMul,Int.reduceAdd,Int.reduceSub,Int.reduceMul,Int.reduceLT,Int.reduceLE,Int.reduceEq,Int.reduceToNat,Int.reduceNeg,Nat.reduceEqDiff,Nat.reduceBEq,Nat.reduceLT,xBY,xEm,xGh,xIb,xIc,xId,xBM,xEj,xCi,xCj,xIn,xOr,List.length_map,xGb,xAN,xF9,xGa,xLY,xOR,xFL,hsn,g0,g1,l1,l2,l3,l4,l5,hI,hOo,hi,ho,hs,ht,hsh,hi0,hcast,hwr]
      rfl
    · rw [xBY (by omega),g0]; rfl
    · rw [xBY (by omega),g1]; rfl
    · rw [xBY (by omega),g2]
    · exact .inr ⟨G.length,G.length + 1,rfl,rfl,hlen,by omega,by omega,by rw [xGh rfl]; rfl,by rw [xEm rfl]; rfl⟩
    · simp; omega
  · have hGp := xLb hpk
    have hGp2 := xLb hpw
    refine ⟨(G.set p .dead).set p2 .dead ++ [.cells false false (pcs (ks ++ [(s,t)])),.cells false false (bs (w ++ [i + om]))],.own false (G.length + 1) 0 (w.length + 1) 1,.own false G.length 0 (ks.length + 1) 2,?_,⟨?_,?_,?_,?_,?_⟩⟩
    · rw [xSg]
      simp (maxSteps := 30000000) (disch := first | assumption | omega | (simp only [WL,AV.isCell,xAN] <;> omega) | rfl | decide) only [↓reduceIte,WB,xAw,xAc,xAu,xAl,xAk,AV.cells,AV.isCell,xAb,xAd,xAe,WP,xAG,xAy,xBn,xBl,xBg,xAD,xAJ,xAH,W2,xAf,xAg,xAh,Nat.reduceAdd,Nat.reduceSub,Nat.reduceLeDiff,Nat.reduceMul,Int.reduceAdd,Int.reduceSub,Int.reduceMul,Int.reduceLT,Int.reduceLE,Int.reduceEq,Int.reduceToNat,Int.reduceNeg,Nat.reduceEqDiff,Nat.reduceBEq,Nat.reduceLT,xBY,xEm,xGh,xIb,xIc,xId,xBM,xEj,xCi,xCj,xIn,xOr,List.length_map,xGb,xAN,xF9,xGa,xLY,xOR,xFL,hsn,g0,g1,l1,l2,l3,l4,l5,hI,hOo,hi,ho,hs,ht,hsh,hi0,hpk,hpw,hcast,hwr]
      rw [xYD,xMo,← xV9]; rfl
    · rw [xBY (by simp; omega),xBM (by omega),xBM (by omega),g0]; rfl
    · rw [xBY (by simp; omega),xBM (by omega),xBM (by omega),g1]; rfl
    · rw [xBY (by simp; omega),xBM (by omega),xBM (by omega),g2]
    · exact .inr ⟨G.length,G.length + 1,by simp,by simp,hlen,by omega,by omega,by rw [xGh (by simp)]; rfl,by rw [xEm (by simp)]; rfl⟩
    · simp; omega
theorem xUF (hO : Ok2 M N) : ∀ e n G wv pv,n + e = M.next.length * N.next.length + 1 → (xEk M N n).Nodup → Inv32 M N G wv pv (xEk M N n) (xK9 M N n) →
    ∃ n0 F' G' z p' q',EndP M N n0 ∧ L.loop xG3 xQ1 ⟨yAa (cfg M N n).1 (cfg M N n).2 wv pv,G⟩ = some (.ret,⟨F',G'⟩) ∧ F'.getD 4 .any = .ptr 2 0 ∧ F'.getD 5 .any = .int .i64 0 ∧ G'[2]? = some (.cells false false [xBF z p',xBF false q']) ∧
      Canon (xAZ ((xK9 M N n0).take (pos (cfg M N n0) (xEk M N n0))) ((xK9 M N n0).drop (pos (cfg M N n0) (xEk M N n0)))) p' q' := by
  intro e
  induction e with
  | zero =>
    intro n G wv pv h hd hI
    have := xDI hd (xIf hO n)
    rw [xCt] at this
    omega
  | succ e ih =>
    intro n G wv pv h hd hI
    have hc := xQv hO n
    have hle := xDI hd (xIf hO n)
    rw [xCt] at hle
    have hm := Nat.mul_le_mul hO.m.n9 hO.n.n9
    have hll : (xK9 M N n).length = (xEk M N n).length := by rw [xDV,xCt]
    by_cases hk : cfg M N n ∈ xEk M N n
    · obtain ⟨G',z,p',q',k1,k2,k3⟩ := xRm (s := (cfg M N n).1) (t := (cfg M N n).2) (wv := wv) (pv := pv) hI.ps hI.wr hk (by rw [xCt]; omega) hll hI.g2 hI.len _ 0 (Nat.zero_add _)
      unfold F32 at k1
      simp only [Int.natCast_zero] at k1
      refine ⟨n,yAa (cfg M N n).1 (cfg M N n).2 wv pv,G',z,p',q',⟨hd,hk⟩,?_,rfl,rfl,k2,k3⟩
      rw [xSg]
      simp (maxSteps := 30000000) (disch := first | assumption | omega | (simp only [WL,AV.isCell,xAN] <;> omega) | rfl | decide) only [↓reduceIte,WB,xAw,xAc,xAu,xAl,xAk,AV.cells,AV.isCell,xAb,xAd,xAe,WP,xAG,xAy,xBn,xBl,xBg,xAD,xAJ,xAH,W2,xAf,xAg,xAh,Nat.reduceAdd,Nat.reduceSub,Nat.reduceLeDiff,Nat.reduceMul,Int.reduceAdd,Int.reduceSub,Int.reduceMul,Int.reduceLT,Int.reduceLE,Int.reduceEq,Int.reduceToNat,Int.reduceNeg,Nat.reduceEqDiff,Nat.reduceBEq,Nat.reduceLT,xBY,xEm,xGh,xIb,xIc,xId,xBM,xEj,xCi,xCj,xIn,xOr,List.length_map,xGb,xAN,xF9,xGa,xLY,xOR,xFL,k1]
      try rfl
    · obtain ⟨G',wv',pv',k1,k2⟩ := xOu (s := (cfg M N n).1) (t := (cfg M N n).2) hO hI hc.1 hc.2 hk hll (by rw [xDV]; omega)
      rw [k1]
      refine ih (n + 1) G' wv' pv' (by omega) (xKm hd hk) ?_
      rw [xDJ,xNO]
      exact k2
end
abbrev TMa : TS := ⟨true,[.int .i64,.int .i64,.int .i64,.sl [.sl [.int .i64]],.sl [.sl [.int .u8]]]⟩
abbrev TMo : TS := ⟨true,[.int .i64,.int .i64,.int .i64,.sl [.int .u8],.sl [.sl [.int .i64]]]⟩
theorem xDW {α : Type} {f : α → AV} {P : α → Prop} : ∀ (cs : List AV),(∀ x ∈ cs,∃ a,x = f a ∧ P a) → ∃ l : List α,cs = l.map f ∧ ∀ a ∈ l,P a
  | [],_ => ⟨[],rfl,by simp⟩
  | c :: cs,h => by
    obtain ⟨a,rfl,ha⟩ := h c (by simp)
    obtain ⟨l,rfl,hl⟩ := xDW cs (fun x hx => h x (by simp [hx]))
    exact ⟨a :: l,rfl,by simpa using ⟨ha,hl⟩⟩
theorem xXo {a : AV} (h : Fit (.sl [.int .i64]) a) : ∃ r,a = rwV r ∧ (r.z = true → r.l = []) := by
  obtain ⟨z,cs,rfl,hz,_,hf⟩ := xIi h
  obtain ⟨l,rfl,_⟩ := xDW (f := fun n : Int => AV.int .i64 n) (P := fun _ => True) cs (fun x hx => by obtain ⟨n,rfl,_⟩ := xEl (hf x hx); exact ⟨n,rfl,trivial⟩)
  exact ⟨⟨z,l⟩,by simp [rwV,xBZ],by simpa using hz⟩
theorem xXp {a : AV} (h : Fit (.sl [.int .u8]) a) : ∃ w : Wd,a = wdV w ∧ (w.z = true → w.l = []) ∧ ∀ x ∈ w.l,x < 256 := by
  obtain ⟨z,cs,rfl,hz,_,hf⟩ := xIi h
  obtain ⟨l,rfl,hl⟩ := xDW (f := fun n : Nat => AV.int .u8 n) (P := fun n => n < 256) cs (fun x hx => by obtain ⟨n,rfl,h⟩ := yAh (hf x hx); exact ⟨n,rfl,h⟩)
  exact ⟨⟨z,l⟩,by simp [wdV,bs],by simpa using hz,hl⟩
structure In (m : Mf) : Prop where
  i : -9223372036854775808 ≤ m.i ∧ m.i < 9223372036854775808
  o : -9223372036854775808 ≤ m.o ∧ m.o < 9223372036854775808
  s : -9223372036854775808 ≤ m.s ∧ m.s < 9223372036854775808
  cn : Cn m
  nl : m.next.length ≤ 9223372036854775807
  b : ∀ w ∈ m.emit,∀ x ∈ w.l,x < 256
structure InN (m : Nf) : Prop where
  i : -9223372036854775808 ≤ m.i ∧ m.i < 9223372036854775808
  o : -9223372036854775808 ≤ m.o ∧ m.o < 9223372036854775808
  s : -9223372036854775808 ≤ m.s ∧ m.s < 9223372036854775808
  cn : CnN m
  nl : m.next.length ≤ 9223372036854775807
  b : ∀ x ∈ m.give,x < 256
theorem yAb {a : AV} (h : xUJ TMa a) : ∃ m : Mf,a = m.av ∧ In m := by
  obtain ⟨cs,rfl,h'⟩ := xNR h
  obtain ⟨a1,cs,rfl,h1,h'⟩ := xA6 h'
  obtain ⟨a2,cs,rfl,h2,h'⟩ := xA6 h'
  obtain ⟨a3,cs,rfl,h3,h'⟩ := xA6 h'
  obtain ⟨a4,cs,rfl,h4,h'⟩ := xA6 h'
  obtain ⟨a5,cs,rfl,h5,h'⟩ := xA6 h'
  obtain rfl := xKn h'
  obtain ⟨i,rfl,b1⟩ := xEl h1
  obtain ⟨o,rfl,b2⟩ := xEl h2
  obtain ⟨s,rfl,b3⟩ := xEl h3
  obtain ⟨z,c4,rfl,z4,q4,hf⟩ := xIi h4
  obtain ⟨nx,rfl,p4⟩ := xDW (f := rwV) (P := fun r => r.z = true → r.l = []) c4 (fun x hx => xXo (hf x hx))
  obtain ⟨ze,c5,rfl,z5,_,hf5⟩ := xIi h5
  obtain ⟨emi,rfl,p5⟩ := xDW (f := wdV) (P := fun r => (r.z = true → r.l = []) ∧ ∀ x ∈ r.l,x < 256) c5 (fun x hx => xXp (hf5 x hx))
  exact ⟨⟨i,o,s,z,nx,ze,emi⟩,by simp [Mf.av,Mf.cells],⟨⟨b1.1,Int.lt_of_le_of_lt b1.2 (by decide)⟩,⟨b2.1,Int.lt_of_le_of_lt b2.2 (by decide)⟩,⟨b3.1,Int.lt_of_le_of_lt b3.2 (by decide)⟩,⟨by simpa using z4,by simpa using z5,p4,fun w hw => (p5 w hw).1⟩,by simpa [maxLen] using q4,fun w hw => (p5 w hw).2⟩⟩
theorem yAc {a : AV} (h : xUJ TMo a) : ∃ m : Nf,a = m.av ∧ InN m := by
  obtain ⟨cs,rfl,h'⟩ := xNR h
  obtain ⟨a1,cs,rfl,h1,h'⟩ := xA6 h'
  obtain ⟨a2,cs,rfl,h2,h'⟩ := xA6 h'
  obtain ⟨a3,cs,rfl,h3,h'⟩ := xA6 h'
  obtain ⟨a4,cs,rfl,h4,h'⟩ := xA6 h'
  obtain ⟨a5,cs,rfl,h5,h'⟩ := xA6 h'
  obtain rfl := xKn h'
  obtain ⟨i,rfl,b1⟩ := xEl h1
  obtain ⟨o,rfl,b2⟩ := xEl h2
  obtain ⟨s,rfl,b3⟩ := xEl h3
  obtain ⟨g,e4,z4,p4⟩ := xXp h4
  obtain ⟨z,c5,rfl,z5,q5,hf⟩ := xIi h5
  obtain ⟨nx,rfl,p5⟩ := xDW (f := rwV) (P := fun r => r.z = true → r.l = []) c5 (fun x hx => xXo (hf x hx))
  exact ⟨⟨i,o,s,g.z,g.l,z,nx⟩,by rw [e4]; simp [Nf.av,Nf.cells,wdV],⟨⟨b1.1,Int.lt_of_le_of_lt b1.2 (by decide)⟩,⟨b2.1,Int.lt_of_le_of_lt b2.2 (by decide)⟩,⟨b3.1,Int.lt_of_le_of_lt b3.2 (by decide)⟩,⟨by simpa using z5,z4,p5⟩,by simpa [maxLen] using q5,p4⟩⟩
def xC6 (l : List Rw) : Bool := l.any fun r => decide (66 < r.l.length)
def xIo (l : List Wd) : Bool := l.any fun r => decide (66 < r.l.length)
def xE7 (m : Mf) : Bool := decide (14 < m.next.length ∨ 16 < m.emit.length) || xC6 m.next || xIo m.emit
section
variable {cs : List AV} {nm k : Nat} {m : Mf} {s3 s4 s5 : AV} {H : xAj}
theorem yAd (hk : k < nm) (hcs : cs.length = nm * 5) (h3 : List.take 1 (List.drop (k * 5 + 3) cs) = [.sl m.z m.next.length (m.next.map rwV)]) (hn : m.next.length ≤ 14) (hnm : nm < 100) : ∀ e i,i + e = m.next.length →
    ∃ j : Nat,L.loop xLP xVg ⟨xIL (.sl false nm cs) (.bool false) (.int .i64 (k : Nat)) (.int .i64 (i : Nat)),H⟩ =
      some (if xC6 (m.next.drop i) = true then (.ret,⟨xIL (.sl false nm cs) (.bool true) (.int .i64 (k : Nat)) (.int .i64 (j : Nat)),H⟩)
        else (.exit 2,⟨xIL (.sl false nm cs) (.bool false) (.int .i64 (k : Nat)) (.int .i64 (m.next.length : Nat)),H⟩)) := by
  intro e
  induction e with
  | zero =>
    intro i h
    obtain rfl : i = m.next.length := by omega
    refine ⟨0,?_⟩
    rw [if_neg (by rw [List.drop_length]; simp [xC6]),xSa]
    simp (maxSteps := 30000000) (disch := first | assumption | omega | (simp only [WL,AV.isCell] <;> omega) | rfl | decide) only [↓reduceIte,WB,xAw,xAc,xAu,xAl,xAk,AV.cells,AV.isCell,xAb,xAd,xAe,W2,xAf,xAg,xAh,Nat.reduceAdd,Nat.reduceSub,Nat.reduceLeDiff,Nat.reduceMul,Int.reduceAdd,Int.reduceSub,Int.reduceMul,Int.reduceLT,Int.reduceLE,Int.reduceEq,Int.reduceToNat,Int.reduceNeg,Nat.reduceEqDiff,Nat.reduceBEq,Nat.reduceLT,xAs,xAt,List.length_map,xIK,xFI,h3]
  | succ e ih =>
    intro i h
    have hlt : (i : Int) < (m.next.length : Nat) := by omega
    obtain ⟨j,ih'⟩ := ih (i + 1) (by omega)
    have hrv : rwV (m.next.getD i r0) = .sl (m.next.getD i r0).z (m.next.getD i r0).l.length (xBZ (m.next.getD i r0).l) := rfl
    rw [xAV (a := r0) (by omega : i < m.next.length)]
    have et : ∀ t,xC6 (m.next.getD i r0 :: t) = (decide (66 < (m.next.getD i r0).l.length) || xC6 t) := fun _ => rfl
    rw [et]
    by_cases c : 66 < (m.next.getD i r0).l.length
    · have c' : (66 : Int) < ((m.next.getD i r0).l.length : Nat) := by omega
      refine ⟨i,?_⟩
      rw [decide_eq_true c,Bool.true_or,if_pos rfl,xSa]
      simp (maxSteps := 30000000) (disch := first | assumption | omega | (simp only [WL,AV.isCell] <;> omega) | rfl | decide) only [↓reduceIte,WB,xAw,xAc,xAu,xAl,xAk,AV.cells,AV.isCell,xAb,xAd,xAe,W2,xAf,xAg,xAh,Nat.reduceAdd,Nat.reduceSub,Nat.reduceLeDiff,Nat.reduceMul,Int.reduceAdd,Int.reduceSub,Int.reduceMul,Int.reduceLT,Int.reduceLE,Int.reduceEq,Int.reduceToNat,Int.reduceNeg,Nat.reduceEqDiff,Nat.reduceBEq,Nat.reduceLT,xAs,xAt,List.length_map,xIK,xFI,h3,hlt,hrv,c']
    · have c' : ¬ (66 : Int) < ((m.next.getD i r0).l.length : Nat) := by omega
      refine ⟨j,?_⟩
      rw [decide_eq_false c,Bool.false_or,xSa]
      by_cases e : xC6 (m.next.drop (i + 1)) = true
      · rw [if_pos e] at ih' ⊢
        simp (maxSteps := 30000000) (disch := first | assumption | omega | (simp only [WL,AV.isCell] <;> omega) | rfl | decide) only [↓reduceIte,WB,xAw,xAc,xAu,xAl,xAk,AV.cells,AV.isCell,xAb,xAd,xAe,W2,xAf,xAg,xAh,Nat.reduceAdd,Nat.reduceSub,Nat.reduceLeDiff,Nat.reduceMul,Int.reduceAdd,Int.reduceSub,Int.reduceMul,Int.reduceLT,Int.reduceLE,Int.reduceEq,Int.reduceToNat,Int.reduceNeg,Nat.reduceEqDiff,Nat.reduceBEq,Nat.reduceLT,xAs,xAt,List.length_map,xIK,xFI,h3,hlt,hrv,c',ih']
      · rw [if_neg e] at ih' ⊢
        simp (maxSteps := 30000000) (disch := first | assumption | omega | (simp only [WL,AV.isCell] <;> omega) | rfl | decide) only [↓reduceIte,WB,xAw,xAc,xAu,xAl,xAk,AV.cells,AV.isCell,xAb,xAd,xAe,W2,xAf,xAg,xAh,Nat.reduceAdd,Nat.reduceSub,Nat.reduceLeDiff,Nat.reduceMul,Int.reduceAdd,Int.reduceSub,Int.reduceMul,Int.reduceLT,Int.reduceLE,Int.reduceEq,Int.reduceToNat,Int.reduceNeg,Nat.reduceEqDiff,Nat.reduceBEq,Nat.reduceLT,xAs,xAt,List.length_map,xIK,xFI,h3,hlt,hrv,c',ih']
theorem yAe (hk : k < nm) (hcs : cs.length = nm * 5) (h3 : List.take 1 (List.drop (k * 5 + 4) cs) = [.sl m.ze m.emit.length (m.emit.map wdV)]) (hn : m.emit.length ≤ 16) (hnm : nm < 100) : ∀ e i,i + e = m.emit.length →
    ∃ j : Nat,L.loop xLQ xVh ⟨xIN (.sl false nm cs) (.bool false) (.int .i64 (k : Nat)) (.int .i64 (i : Nat)),H⟩ =
      some (if xIo (m.emit.drop i) = true then (.ret,⟨xIN (.sl false nm cs) (.bool true) (.int .i64 (k : Nat)) (.int .i64 (j : Nat)),H⟩)
        else (.exit 4,⟨xIN (.sl false nm cs) (.bool false) (.int .i64 (k : Nat)) (.int .i64 (m.emit.length : Nat)),H⟩)) := by
  intro e
  induction e with
  | zero =>
    intro i h
    obtain rfl : i = m.emit.length := by omega
    refine ⟨0,?_⟩
    rw [if_neg (by rw [List.drop_length]; simp [xIo]),xSb]
    simp (maxSteps := 30000000) (disch := first | assumption | omega | (simp only [WL,AV.isCell] <;> omega) | rfl | decide) only [↓reduceIte,WB,xAw,xAc,xAu,xAl,xAk,AV.cells,AV.isCell,xAb,xAd,xAe,W2,xAf,xAg,xAh,Nat.reduceAdd,Nat.reduceSub,Nat.reduceLeDiff,Nat.reduceMul,Int.reduceAdd,Int.reduceSub,Int.reduceMul,Int.reduceLT,Int.reduceLE,Int.reduceEq,Int.reduceToNat,Int.reduceNeg,Nat.reduceEqDiff,Nat.reduceBEq,Nat.reduceLT,xAs,xAt,List.length_map,xIM,xG0,h3]
  | succ e ih =>
    intro i h
    have hlt : (i : Int) < (m.emit.length : Nat) := by omega
    obtain ⟨j,ih'⟩ := ih (i + 1) (by omega)
    have hrv : wdV (m.emit.getD i w0) = .sl (m.emit.getD i w0).z (m.emit.getD i w0).l.length (bs (m.emit.getD i w0).l) := rfl
    rw [xAV (a := w0) (by omega : i < m.emit.length)]
    have et : ∀ t,xIo (m.emit.getD i w0 :: t) = (decide (66 < (m.emit.getD i w0).l.length) || xIo t) := fun _ => rfl
    rw [et]
    by_cases c : 66 < (m.emit.getD i w0).l.length
    · have c' : (66 : Int) < ((m.emit.getD i w0).l.length : Nat) := by omega
      refine ⟨i,?_⟩
      rw [decide_eq_true c,Bool.true_or,if_pos rfl,xSb]
      simp (maxSteps := 30000000) (disch := first | assumption | omega | (simp only [WL,AV.isCell] <;> omega) | rfl | decide) only [↓reduceIte,WB,xAw,xAc,xAu,xAl,xAk,AV.cells,AV.isCell,xAb,xAd,xAe,W2,xAf,xAg,xAh,Nat.reduceAdd,Nat.reduceSub,Nat.reduceLeDiff,Nat.reduceMul,Int.reduceAdd,Int.reduceSub,Int.reduceMul,Int.reduceLT,Int.reduceLE,Int.reduceEq,Int.reduceToNat,Int.reduceNeg,Nat.reduceEqDiff,Nat.reduceBEq,Nat.reduceLT,xAs,xAt,List.length_map,xIM,xG0,h3,hlt,hrv,c']
    · have c' : ¬ (66 : Int) < ((m.emit.getD i w0).l.length : Nat) := by omega
      refine ⟨j,?_⟩
      rw [decide_eq_false c,Bool.false_or,xSb]
      by_cases e : xIo (m.emit.drop (i + 1)) = true
      · rw [if_pos e] at ih' ⊢
        simp (maxSteps := 30000000) (disch := first | assumption | omega | (simp only [WL,AV.isCell] <;> omega) | rfl | decide) only [↓reduceIte,WB,xAw,xAc,xAu,xAl,xAk,AV.cells,AV.isCell,xAb,xAd,xAe,W2,xAf,xAg,xAh,Nat.reduceAdd,Nat.reduceSub,Nat.reduceLeDiff,Nat.reduceMul,Int.reduceAdd,Int.reduceSub,Int.reduceMul,Int.reduceLT,Int.reduceLE,Int.reduceEq,Int.reduceToNat,Int.reduceNeg,Nat.reduceEqDiff,Nat.reduceBEq,Nat.reduceLT,xAs,xAt,List.length_map,xIM,xG0,h3,hlt,hrv,c',ih']
      · rw [if_neg e] at ih' ⊢
        simp (maxSteps := 30000000) (disch := first | assumption | omega | (simp only [WL,AV.isCell] <;> omega) | rfl | decide) only [↓reduceIte,WB,xAw,xAc,xAu,xAl,xAk,AV.cells,AV.isCell,xAb,xAd,xAe,W2,xAf,xAg,xAh,Nat.reduceAdd,Nat.reduceSub,Nat.reduceLeDiff,Nat.reduceMul,Int.reduceAdd,Int.reduceSub,Int.reduceMul,Int.reduceLT,Int.reduceLE,Int.reduceEq,Int.reduceToNat,Int.reduceNeg,Nat.reduceEqDiff,Nat.reduceBEq,Nat.reduceLT,xAs,xAt,List.length_map,xIM,xG0,h3,hlt,hrv,c',ih']
end
def xDa (ms : List Mf) : List AV := rows Mf.cells ms
theorem xLa (l : List Mf) : (xDa l).length = l.length * 5 := xH7 (enc := Mf.cells) (k := 5) (fun _ => rfl) l
def m0 : Mf := ⟨0,0,0,true,[],true,[]⟩
theorem xNQ {l : List Mf} {i : Nat} (h : i < l.length) : List.drop (i * 5) (xDa l) = (l.getD i m0).cells ++ xDa (l.drop (i + 1)) := by
  unfold xDa
  rw [xH8 (enc := Mf.cells) (k := 5) (fun _ => rfl),xAV (a := m0) h]
  rfl
theorem xWa {l : List Mf} {i : Nat} (h : i < l.length) : List.take 1 (List.drop (i * 5 + 3) (xDa l)) = [.sl (l.getD i m0).z (l.getD i m0).next.length ((l.getD i m0).next.map rwV)] := by
  rw [← List.drop_drop,xNQ h]; rfl
theorem xWb {l : List Mf} {i : Nat} (h : i < l.length) : List.take 1 (List.drop (i * 5 + 4) (xDa l)) = [.sl (l.getD i m0).ze (l.getD i m0).emit.length ((l.getD i m0).emit.map wdV)] := by
  rw [← List.drop_drop,xNQ h]; rfl
theorem xYE {ms : List Mf} {H : xAj} (hm : ms.length < 100) : ∀ e i,i + e = ms.length →
    ∃ j : Nat,L.loop xLR xVi ⟨xIO (.sl false ms.length (xDa ms)) (.bool false) (.int .i64 (i : Nat)),H⟩ =
      some (if (ms.drop i).any xE7 = true then (.ret,⟨xIO (.sl false ms.length (xDa ms)) (.bool true) (.int .i64 (j : Nat)),H⟩)
        else (.exit 0,⟨xIO (.sl false ms.length (xDa ms)) (.bool false) (.int .i64 (ms.length : Nat)),H⟩)) := by
  have hcl := xLa ms
  intro e
  induction e with
  | zero =>
    intro i h
    obtain rfl : i = ms.length := by omega
    refine ⟨0,?_⟩
    rw [if_neg (by rw [List.drop_length]; simp),xIP]
    simp (maxSteps := 30000000) (disch := first | assumption | omega | (simp only [WL,AV.isCell] <;> omega) | rfl | decide) only [↓reduceIte,WB,xAw,xAc,xAu,xAl,xAk,AV.cells,AV.isCell,xAb,xAd,xAe,W2,xAf,xAg,xAh,Nat.reduceAdd,Nat.reduceSub,Nat.reduceLeDiff,Nat.reduceMul,Int.reduceAdd,Int.reduceSub,Int.reduceMul,Int.reduceLT,Int.reduceLE,Int.reduceEq,Int.reduceToNat,Int.reduceNeg,Nat.reduceEqDiff,Nat.reduceBEq,Nat.reduceLT,xAs,xAt,List.length_map,xEG,xEH]
  | succ e ih =>
    intro i h
    have hlt : (i : Int) < (ms.length : Nat) := by omega
    obtain ⟨j,ih'⟩ := ih (i + 1) (by omega)
    have h3 := xWa (l := ms) (i := i) (by omega)
    have h4 := xWb (l := ms) (i := i) (by omega)
    rw [xAV (a := m0) (by omega : i < ms.length),List.any_cons]
    generalize hM : ms.getD i m0 = m at *
    by_cases c1 : 14 < m.next.length
    · have e0 : xE7 m = true := by simp [xE7,c1]
      have c1' : (14 : Int) < (m.next.length : Nat) := by omega
      refine ⟨i,?_⟩
      rw [e0,Bool.true_or,if_pos rfl,xIP]
      simp (maxSteps := 30000000) (disch := first | assumption | omega | (simp only [WL,AV.isCell] <;> omega) | rfl | decide) only [↓reduceIte,WB,xAw,xAc,xAu,xAl,xAk,AV.cells,AV.isCell,xAb,xAd,xAe,W2,xAf,xAg,xAh,Nat.reduceAdd,Nat.reduceSub,Nat.reduceLeDiff,Nat.reduceMul,Int.reduceAdd,Int.reduceSub,Int.reduceMul,Int.reduceLT,Int.reduceLE,Int.reduceEq,Int.reduceToNat,Int.reduceNeg,Nat.reduceEqDiff,Nat.reduceBEq,Nat.reduceLT,xAs,xAt,List.length_map,xEG,xEH,hcl,h3,h4,hlt,c1']
    have c1' : ¬ (14 : Int) < (m.next.length : Nat) := by omega
    by_cases c2 : 16 < m.emit.length
    · have e0 : xE7 m = true := by simp [xE7,c2]
      have c2' : (16 : Int) < (m.emit.length : Nat) := by omega
      refine ⟨i,?_⟩
      rw [e0,Bool.true_or,if_pos rfl,xIP]
      simp (maxSteps := 30000000) (disch := first | assumption | omega | (simp only [WL,AV.isCell] <;> omega) | rfl | decide) only [↓reduceIte,WB,xAw,xAc,xAu,xAl,xAk,AV.cells,AV.isCell,xAb,xAd,xAe,W2,xAf,xAg,xAh,Nat.reduceAdd,Nat.reduceSub,Nat.reduceLeDiff,Nat.reduceMul,Int.reduceAdd,Int.reduceSub,Int.reduceMul,Int.reduceLT,Int.reduceLE,Int.reduceEq,Int.reduceToNat,Int.reduceNeg,Nat.reduceEqDiff,Nat.reduceBEq,Nat.reduceLT,xAs,xAt,List.length_map,xEG,xEH,hcl,h3,h4,hlt,c1',c2']
    have c2' : ¬ (16 : Int) < (m.emit.length : Nat) := by omega
    obtain ⟨j1,hr⟩ := yAd (H := H) (k := i) (nm := ms.length) (m := m) (by omega) hcl h3 (by omega) hm _ 0 (Nat.zero_add _)
    obtain ⟨j2,hw⟩ := yAe (H := H) (k := i) (nm := ms.length) (m := m) (by omega) hcl h4 (by omega) hm _ 0 (Nat.zero_add _)
    simp only [Int.natCast_zero,List.drop_zero] at hr hw
    have eM : xE7 m = (xC6 m.next || xIo m.emit) := by simp [xE7,c1,c2]
    rw [eM]
    by_cases c3 : xC6 m.next = true
    · rw [if_pos c3] at hr
      refine ⟨i,?_⟩
      rw [c3,Bool.true_or,Bool.true_or,if_pos rfl,xIP]
      simp (maxSteps := 30000000) (disch := first | assumption | omega | (simp only [WL,AV.isCell] <;> omega) | rfl | decide) only [↓reduceIte,WB,xAw,xAc,xAu,xAl,xAk,AV.cells,AV.isCell,xAb,xAd,xAe,W2,xAf,xAg,xAh,Nat.reduceAdd,Nat.reduceSub,Nat.reduceLeDiff,Nat.reduceMul,Int.reduceAdd,Int.reduceSub,Int.reduceMul,Int.reduceLT,Int.reduceLE,Int.reduceEq,Int.reduceToNat,Int.reduceNeg,Nat.reduceEqDiff,Nat.reduceBEq,Nat.reduceLT,xAs,xAt,List.length_map,xEG,xEH,xFI,hcl,h3,h4,hlt,c1',c2',hr]
    rw [if_neg c3] at hr
    by_cases c4 : xIo m.emit = true
    · rw [if_pos c4] at hw
      refine ⟨i,?_⟩
      rw [c4,Bool.or_true,Bool.true_or,if_pos rfl,xIP]
      simp (maxSteps := 30000000) (disch := first | assumption | omega | (simp only [WL,AV.isCell] <;> omega) | rfl | decide) only [↓reduceIte,WB,xAw,xAc,xAu,xAl,xAk,AV.cells,AV.isCell,xAb,xAd,xAe,W2,xAf,xAg,xAh,Nat.reduceAdd,Nat.reduceSub,Nat.reduceLeDiff,Nat.reduceMul,Int.reduceAdd,Int.reduceSub,Int.reduceMul,Int.reduceLT,Int.reduceLE,Int.reduceEq,Int.reduceToNat,Int.reduceNeg,Nat.reduceEqDiff,Nat.reduceBEq,Nat.reduceLT,xAs,xAt,List.length_map,xEG,xEH,xFI,xG0,hcl,h3,h4,hlt,c1',c2',hr,hw]
    rw [if_neg c4] at hw
    have c3' : xC6 m.next = false := by simpa using c3
    have c4' : xIo m.emit = false := by simpa using c4
    refine ⟨j,?_⟩
    rw [c3',c4',Bool.false_or,Bool.false_or,xIP]
    by_cases e : (ms.drop (i + 1)).any xE7 = true
    · rw [if_pos e] at ih' ⊢
      simp (maxSteps := 30000000) (disch := first | assumption | omega | (simp only [WL,AV.isCell] <;> omega) | rfl | decide) only [↓reduceIte,WB,xAw,xAc,xAu,xAl,xAk,AV.cells,AV.isCell,xAb,xAd,xAe,W2,xAf,xAg,xAh,Nat.reduceAdd,Nat.reduceSub,Nat.reduceLeDiff,Nat.reduceMul,Int.reduceAdd,Int.reduceSub,Int.reduceMul,Int.reduceLT,Int.reduceLE,Int.reduceEq,Int.reduceToNat,Int.reduceNeg,Nat.reduceEqDiff,Nat.reduceBEq,Nat.reduceLT,xAs,xAt,List.length_map,xEG,xEH,xFI,xG0,hcl,h3,h4,hlt,c1',c2',hr,hw,ih']
    · rw [if_neg e] at ih' ⊢
      simp (maxSteps := 30000000) (disch := first | assumption | omega | (simp only [WL,AV.isCell] <;> omega) | rfl | decide) only [↓reduceIte,WB,xAw,xAc,xAu,xAl,xAk,AV.cells,AV.isCell,xAb,xAd,xAe,W2,xAf,xAg,xAh,Nat.reduceAdd,Nat.reduceSub,Nat.reduceLeDiff,Nat.reduceMul,Int.reduceAdd,Int.reduceSub,Int.reduceMul,Int.reduceLT,Int.reduceLE,Int.reduceEq,Int.reduceToNat,Int.reduceNeg,Nat.reduceEqDiff,Nat.reduceBEq,Nat.reduceLT,xAs,xAt,List.length_map,xEG,xEH,xFI,xG0,hcl,h3,h4,hlt,c1',c2',hr,hw,ih']
theorem yAf (ms : List Mf) (hm : ms.length < 100) : L.pcall 11 [.sl false ms.length (xDa ms)] = some (.bool (ms.any xE7)) := by
  obtain ⟨j,h⟩ := xYE (ms := ms) (H := []) hm _ 0 (Nat.zero_add _)
  simp only [Int.natCast_zero,List.drop_zero] at h
  rw [yBB,a11,xAm]
  cases c : ms.any xE7 with
  | true =>
    rw [if_pos c] at h
    simp (maxSteps := 30000000) (disch := first | assumption | omega | (simp only [WL,AV.isCell] <;> omega) | rfl | decide) only [↓reduceIte,WB,xAw,xAc,xAu,xAl,xAk,AV.cells,AV.isCell,xAb,xAd,xAe,W2,xAf,xAg,xAh,Nat.reduceAdd,Nat.reduceSub,Nat.reduceLeDiff,Nat.reduceMul,Int.reduceAdd,Int.reduceSub,Int.reduceMul,Int.reduceLT,Int.reduceLE,Int.reduceEq,Int.reduceToNat,Int.reduceNeg,Nat.reduceEqDiff,Nat.reduceBEq,Nat.reduceLT,xAs,xAt,List.length_map,xEH,h]
  | false =>
    rw [if_neg (by simp [c])] at h
    simp (maxSteps := 30000000) (disch := first | assumption | omega | (simp only [WL,AV.isCell] <;> omega) | rfl | decide) only [↓reduceIte,WB,xAw,xAc,xAu,xAl,xAk,AV.cells,AV.isCell,xAb,xAd,xAe,W2,xAf,xAg,xAh,Nat.reduceAdd,Nat.reduceSub,Nat.reduceLeDiff,Nat.reduceMul,Int.reduceAdd,Int.reduceSub,Int.reduceMul,Int.reduceLT,Int.reduceLE,Int.reduceEq,Int.reduceToNat,Int.reduceNeg,Nat.reduceEqDiff,Nat.reduceBEq,Nat.reduceLT,xAs,xAt,List.length_map,xEH,h]
theorem xWc (m : Mf) : L.pcall 11 [.sl false 1 m.cells] = some (.bool (xE7 m)) := by
  have h := yAf [m] (by simp)
  have e : xDa [m] = m.cells := by unfold xDa rows; simp
  rw [e] at h
  simpa using h
def xUG (m : Nf) : Bool := decide (14 < m.next.length ∨ 16 < m.give.length) || xC6 m.next
theorem xYF {m : Nf} (hI : InN m) : ∀ e i,i + e = m.next.length →
    ∃ j : Nat,L.loop xLV xVm ⟨xIX (.ptr 0 0) (.bool false) (.int .i64 (i : Nat)),[.cells false false m.cells]⟩ =
      some (if xC6 (m.next.drop i) = true then (.ret,⟨xIX (.ptr 0 0) (.bool true) (.int .i64 (j : Nat)),[.cells false false m.cells]⟩)
        else (.exit 0,⟨xIX (.ptr 0 0) (.bool false) (.int .i64 (m.next.length : Nat)),[.cells false false m.cells]⟩)) := by
  have hn := hI.nl
  unfold Nf.cells
  intro e
  induction e with
  | zero =>
    intro i h
    obtain rfl : i = m.next.length := by omega
    refine ⟨0,?_⟩
    rw [if_neg (by rw [List.drop_length]; simp [xC6]),xSd]
    simp (maxSteps := 30000000) (disch := first | assumption | omega | (simp only [WL,AV.isCell] <;> omega) | rfl | decide) only [↓reduceIte,WB,xAw,xAc,xAu,xAl,xAk,AV.cells,AV.isCell,xAb,xAd,xAe,W2,xAf,xAg,xAh,Nat.reduceAdd,Nat.reduceSub,Nat.reduceLeDiff,Nat.reduceMul,Int.reduceAdd,Int.reduceSub,Int.reduceMul,Int.reduceLT,Int.reduceLE,Int.reduceEq,Int.reduceToNat,Int.reduceNeg,Nat.reduceEqDiff,Nat.reduceBEq,Nat.reduceLT,xAs,xAt,List.length_map,xIW,xFJ]
  | succ e ih =>
    intro i h
    have hlt : (i : Int) < (m.next.length : Nat) := by omega
    obtain ⟨j,ih'⟩ := ih (i + 1) (by omega)
    have hrv : rwV (m.next.getD i r0) = .sl (m.next.getD i r0).z (m.next.getD i r0).l.length (xBZ (m.next.getD i r0).l) := rfl
    rw [xAV (a := r0) (by omega : i < m.next.length)]
    have et : ∀ t,xC6 (m.next.getD i r0 :: t) = (decide (66 < (m.next.getD i r0).l.length) || xC6 t) := fun _ => rfl
    rw [et]
    by_cases c : 66 < (m.next.getD i r0).l.length
    · have c' : (66 : Int) < ((m.next.getD i r0).l.length : Nat) := by omega
      refine ⟨i,?_⟩
      rw [decide_eq_true c,Bool.true_or,if_pos rfl,xSd]
      simp (maxSteps := 30000000) (disch := first | assumption | omega | (simp only [WL,AV.isCell] <;> omega) | rfl | decide) only [↓reduceIte,WB,xAw,xAc,xAu,xAl,xAk,AV.cells,AV.isCell,xAb,xAd,xAe,W2,xAf,xAg,xAh,Nat.reduceAdd,Nat.reduceSub,Nat.reduceLeDiff,Nat.reduceMul,Int.reduceAdd,Int.reduceSub,Int.reduceMul,Int.reduceLT,Int.reduceLE,Int.reduceEq,Int.reduceToNat,Int.reduceNeg,Nat.reduceEqDiff,Nat.reduceBEq,Nat.reduceLT,xAs,xAt,List.length_map,xIW,xFJ,hlt,hrv,c']
    · have c' : ¬ (66 : Int) < ((m.next.getD i r0).l.length : Nat) := by omega
      refine ⟨j,?_⟩
      rw [decide_eq_false c,Bool.false_or,xSd]
      by_cases e : xC6 (m.next.drop (i + 1)) = true
      · rw [if_pos e] at ih' ⊢
        simp (maxSteps := 30000000) (disch := first | assumption | omega | (simp only [WL,AV.isCell] <;> omega) | rfl | decide) only [↓reduceIte,WB,xAw,xAc,xAu,xAl,xAk,AV.cells,AV.isCell,xAb,xAd,xAe,W2,xAf,xAg,xAh,Nat.reduceAdd,Nat.reduceSub,Nat.reduceLeDiff,Nat.reduceMul,Int.reduceAdd,Int.reduceSub,Int.reduceMul,Int.reduceLT,Int.reduceLE,Int.reduceEq,Int.reduceToNat,Int.reduceNeg,Nat.reduceEqDiff,Nat.reduceBEq,Nat.reduceLT,xAs,xAt,List.length_map,xIW,xFJ,hlt,hrv,c',ih']
      · rw [if_neg e] at ih' ⊢
        simp (maxSteps := 30000000) (disch := first | assumption | omega | (simp only [WL,AV.isCell] <;> omega) | rfl | decide) only [↓reduceIte,WB,xAw,xAc,xAu,xAl,xAk,AV.cells,AV.isCell,xAb,xAd,xAe,W2,xAf,xAg,xAh,Nat.reduceAdd,Nat.reduceSub,Nat.reduceLeDiff,Nat.reduceMul,Int.reduceAdd,Int.reduceSub,Int.reduceMul,Int.reduceLT,Int.reduceLE,Int.reduceEq,Int.reduceToNat,Int.reduceNeg,Nat.reduceEqDiff,Nat.reduceBEq,Nat.reduceLT,xAs,xAt,List.length_map,xIW,xFJ,hlt,hrv,c',ih']
theorem yAg {m : Nf} (hI : InN m) : L.pcall 30 [m.av] = some (.bool (xUG m)) := by
  obtain ⟨j,h⟩ := xYF hI _ 0 (Nat.zero_add _)
  simp only [Int.natCast_zero,List.drop_zero] at h
  unfold Nf.av
  unfold xUG
  unfold Nf.cells at h ⊢
  rw [yBD,a30,xAm]
  by_cases c : xC6 m.next = true
  · rw [if_pos c] at h
    rw [c,Bool.or_true]
    simp (maxSteps := 30000000) (disch := first | assumption | omega | (simp only [WL,AV.isCell] <;> omega) | rfl | decide) only [↓reduceIte,WB,xAw,xAc,xAu,xAl,xAk,AV.cells,AV.isCell,xAb,xAd,xAe,W2,xAf,xAg,xAh,Nat.reduceAdd,Nat.reduceSub,Nat.reduceLeDiff,Nat.reduceMul,Int.reduceAdd,Int.reduceSub,Int.reduceMul,Int.reduceLT,Int.reduceLE,Int.reduceEq,Int.reduceToNat,Int.reduceNeg,Nat.reduceEqDiff,Nat.reduceBEq,Nat.reduceLT,xAs,xAt,List.length_map,xFJ,h]
  · rw [if_neg c] at h
    have c3' : xC6 m.next = false := by simpa using c
    rw [c3',Bool.or_false]
    by_cases c1 : 14 < m.next.length
    · have c1' : (14 : Int) < (m.next.length : Nat) := by omega
      rw [decide_eq_true (Or.inl c1)]
      simp (maxSteps := 30000000) (disch := first | assumption | omega | (simp only [WL,AV.isCell] <;> omega) | rfl | decide) only [↓reduceIte,WB,xAw,xAc,xAu,xAl,xAk,AV.cells,AV.isCell,xAb,xAd,xAe,W2,xAf,xAg,xAh,Nat.reduceAdd,Nat.reduceSub,Nat.reduceLeDiff,Nat.reduceMul,Int.reduceAdd,Int.reduceSub,Int.reduceMul,Int.reduceLT,Int.reduceLE,Int.reduceEq,Int.reduceToNat,Int.reduceNeg,Nat.reduceEqDiff,Nat.reduceBEq,Nat.reduceLT,xAs,xAt,List.length_map,xFJ,h,c1']
    · have c1' : ¬ (14 : Int) < (m.next.length : Nat) := by omega
      by_cases c2 : 16 < m.give.length
      · have c2' : (16 : Int) < (m.give.length : Nat) := by omega
        rw [decide_eq_true (Or.inr c2)]
        simp (maxSteps := 30000000) (disch := first | assumption | omega | (simp only [WL,AV.isCell] <;> omega) | rfl | decide) only [↓reduceIte,WB,xAw,xAc,xAu,xAl,xAk,AV.cells,AV.isCell,xAb,xAd,xAe,W2,xAf,xAg,xAh,Nat.reduceAdd,Nat.reduceSub,Nat.reduceLeDiff,Nat.reduceMul,Int.reduceAdd,Int.reduceSub,Int.reduceMul,Int.reduceLT,Int.reduceLE,Int.reduceEq,Int.reduceToNat,Int.reduceNeg,Nat.reduceEqDiff,Nat.reduceBEq,Nat.reduceLT,xAs,xAt,List.length_map,xFJ,h,c1',c2']
      · have c2' : ¬ (16 : Int) < (m.give.length : Nat) := by omega
        rw [decide_eq_false (by omega)]
        simp (maxSteps := 30000000) (disch := first | assumption | omega | (simp only [WL,AV.isCell] <;> omega) | rfl | decide) only [↓reduceIte,WB,xAw,xAc,xAu,xAl,xAk,AV.cells,AV.isCell,xAb,xAd,xAe,W2,xAf,xAg,xAh,Nat.reduceAdd,Nat.reduceSub,Nat.reduceLeDiff,Nat.reduceMul,Int.reduceAdd,Int.reduceSub,Int.reduceMul,Int.reduceLT,Int.reduceLE,Int.reduceEq,Int.reduceToNat,Int.reduceNeg,Nat.reduceEqDiff,Nat.reduceBEq,Nat.reduceLT,xAs,xAt,List.length_map,xFJ,h,c1',c2']
theorem xWd {m : Mf} (hI : In m) (h : xE7 m = false) : Sm m := by
  unfold xE7 at h
  simp only [Bool.or_eq_false_iff,decide_eq_false_iff_not,xC6,xIo,List.any_eq_false] at h
  obtain ⟨⟨h1,h2⟩,h3⟩ := h
  refine ⟨hI.i,hI.o,by omega,by omega,fun r hr => ?_,fun w hw => ?_,hI.b⟩
  · have := h2 r hr
    simp at this; omega
  · have := h3 w hw
    simp at this; omega
theorem xWe {m : Nf} (hI : InN m) (h : xUG m = false) : SmN m := by
  unfold xUG at h
  simp only [Bool.or_eq_false_iff,decide_eq_false_iff_not,xC6,List.any_eq_false] at h
  obtain ⟨h1,h2⟩ := h
  refine ⟨hI.i,hI.o,by omega,by omega,fun r hr => ?_,hI.b⟩
  have := h2 r hr
  simp at this; omega
end Go.Abs.Mealy
