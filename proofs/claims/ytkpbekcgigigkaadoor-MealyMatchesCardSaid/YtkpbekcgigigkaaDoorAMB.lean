/- A heap that is not looked into: words for its reads and xBw; a map's entries that number their keys. -/
import Derived.Test.YtkpbekcgigigkaaDoorAMA
import Derived.Test.YtkpbekcgigigkaaDoorAbsWalk2
import Derived.Test.YtkpbekcgigigkaaDoorAbsBun
namespace Go.Abs.Mealy
open Go Go.Abs
set_option linter.unusedSimpArgs false
set_option linter.unusedVariables false
section
variable {G l : Heap} {b : Blk} {f : Blk → Blk} {j k n : Nat}
theorem xBz (h : k < G.length) : (G ++ l)[k]? = G[k]? := List.getElem?_append_left h
theorem xB1 (h : G.length = n) : (G ++ l)[n + k]? = l[k]? := by subst h; exact xS8 G l k
theorem xB7 (h : G.length = n) : (G ++ l)[n]? = l[0]? := by subst h; exact xXG G l
theorem xCg (h : k < G.length) : (G ++ l).set k b = G.set k b ++ l := List.set_append_left k b h
theorem xCh (h : G.length = n) : (G ++ l).set (n + k) b = G ++ l.set k b := by subst h; exact xDh G l k b
theorem xCi (h : G.length = n) : (G ++ l).set n b = G ++ l.set 0 b := by subst h; exact xXH G l b
theorem yA7 (h : k < G.length) : (G ++ l).modify k f = G.modify k f ++ l := by
  apply List.ext_getElem?
  intro i
  by_cases e : i < G.length
  · rw [List.getElem?_append_left (by simpa using e),List.getElem?_modify,List.getElem?_modify,List.getElem?_append_left e]
  · rw [List.getElem?_append_right (by simpa using e),List.getElem?_modify,List.getElem?_append_right (by omega),List.length_modify]
    have : ¬ k = i := by omega
    simp [this]
theorem xBA (h : j ≠ k) : (G.set j b)[k]? = G[k]? := List.getElem?_set_ne h
theorem xB4 (h : k < G.length) : (G.set k b)[k]? = some b := List.getElem?_set_self h
theorem xWt (h : j ≠ k) : (G.modify j f)[k]? = G[k]? := by rw [List.getElem?_modify]; simp [h]
theorem xG3 {x : Blk} (h : G[k]? = some x) : k < G.length := (List.getElem?_eq_some_iff.1 h).1
end
def yA8 (neg : Bool) (H : Heap) : AV → Option (AV × Heap)
  | .nilm => some (.bool (true != neg),H)
  | .mp _ => some (.bool (false != neg),H)
  | _ => none
theorem xIW (neg : Bool) (H : Heap) : yA8 neg H .nilm = some (.bool (!neg),H) := by cases neg <;> rfl
theorem xL0 (neg : Bool) (H : Heap) (q : Nat) : yA8 neg H (.mp q) = some (.bool neg,H) := by cases neg <;> rfl
theorem xPR (R : Rec) (F : List AV) (H : Heap) (neg : Bool) (x : Arg) : xAc R F H (.mnil neg x) = yA8 neg H (opv F x) := rfl
theorem xL1 (R : Rec) (F : List AV) (H : Heap) (ks : List Nat) (c : Bool) (z : AV) (x k : Arg) : xBe R F H (.mlook ks c z x k) = xEt H (xAc R F H (.mlook ks c z x k)) := xCJ _ rfl
def Kt (B T : Nat) (G G' : Heap) : Prop := G.length ≤ G'.length ∧ ∀ b,b < B → b ≠ T → G'[b]? = G[b]?
theorem Kt.refl (B T : Nat) (G : Heap) : Kt B T G G := ⟨Nat.le_refl _,fun _ _ _ => rfl⟩
theorem Kt.trans {B T : Nat} {G G' G2 : Heap} (h : Kt B T G G') (h2 : Kt B T G' G2) : Kt B T G G2 := ⟨Nat.le_trans h.1 h2.1,fun b hb ht => (h2.2 b hb ht).trans (h.2 b hb ht)⟩
def ent {α : Type} (kv : α → AV) : List α → Nat → List (AV × AV)
  | [],_ => []
  | a :: t,i => (kv a,.int .i64 (i : Nat)) :: ent kv t (i + 1)
def yA9 {α : Type} [DecidableEq α] (kv : α → AV) : Prop := ∀ a b,xCq (kv a) (kv b) = some (decide (a = b))
section
variable {α : Type} {kv : α → AV}
variable [DecidableEq α]
def pos (a : α) : List α → Nat
  | [] => 0
  | b :: t => if a = b then 0 else pos a t + 1
theorem xO6 {a : α} : ∀ {ks : List α},a ∈ ks → pos a ks < ks.length
  | b :: t,h => by
    unfold pos
    by_cases c : a = b
    · rw [if_pos c]; simp
    · rw [if_neg c]
      have := xO6 ((List.mem_cons.1 h).resolve_left c)
      rw [List.length_cons]; omega
theorem xR6 {a d : α} : ∀ {ks : List α},a ∈ ks → ks.getD (pos a ks) d = a
  | b :: t,h => by
    unfold pos
    by_cases c : a = b
    · rw [if_pos c]; exact c.symm
    · rw [if_neg c,List.getD_cons_succ]
      exact xR6 ((List.mem_cons.1 h).resolve_left c)
theorem xO7 {a d : α} : ∀ {ks : List α} {i : Nat},i < pos a ks → ks.getD i d ≠ a
  | [],i,h => absurd h (Nat.not_lt_zero _)
  | b :: t,i,h => by
    unfold pos at h
    by_cases c : a = b
    · rw [if_pos c] at h; exact absurd h (Nat.not_lt_zero _)
    · rw [if_neg c] at h
      cases i with
      | zero => exact fun e => c e.symm
      | succ i => rw [List.getD_cons_succ]; exact xO7 (by omega)
theorem xL2 (hk : yA9 kv) (a : α) : ∀ (ks : List α) (i : Nat),xFY (kv a) (ent kv ks i) = some (if a ∈ ks then some (.int .i64 ((i + pos a ks : Nat))) else none)
  | [],i => by simp [ent,xFY]
  | b :: t,i => by
    have ih := xL2 hk a t (i + 1)
    rw [ent,xFY,hk a b]
    unfold pos
    by_cases c : a = b
    · subst c
      rw [decide_eq_true rfl]
      simp
    · rw [decide_eq_false c,if_neg c]
      simp only [ih]
      by_cases m : a ∈ t
      · rw [if_pos m,if_pos (List.mem_cons_of_mem _ m),show i + 1 + pos a t = i + (pos a t + 1) by omega]
      · rw [if_neg m,if_neg (by simp [c,m])]
theorem xWu (hk : yA9 kv) (a : α) : ∀ (ks : List α) (i : Nat),a ∉ ks → xTH (kv a) (.int .i64 ((i + ks.length : Nat))) (ent kv ks i) = some (ent kv (ks ++ [a]) i)
  | [],i,_ => rfl
  | b :: t,i,h => by
    have ih := xWu hk a t (i + 1) (fun m => h (List.mem_cons_of_mem _ m))
    have c : ¬ a = b := fun e => h (by simp [e])
    rw [List.length_cons,show i + (t.length + 1) = i + 1 + t.length by omega,ent,xTH,hk a b,decide_eq_false c]
    simp only [ih,Option.map_some]
    rfl
end
def kv2 (p : Nat × Nat) : AV := .agg [.int .i64 (p.1 : Nat),.int .i64 (p.2 : Nat)]
theorem xWv : yA9 kv2 := by
  intro a b
  obtain ⟨a1,a2⟩ := a
  obtain ⟨b1,b2⟩ := b
  have e : xCq (kv2 (a1,a2)) (kv2 (b1,b2)) = some (((a1 : Int) == (b1 : Int)) && (((a2 : Int) == (b2 : Int)) && true)) := rfl
  rw [e,Bool.and_true]
  congr 1
  by_cases c1 : a1 = b1
  · subst c1
    by_cases c2 : a2 = b2
    · subst c2; simp
    · rw [decide_eq_false (fun h => c2 (by injection h))]
      have : ¬ (a2 : Int) = b2 := by omega
      simp [this]
  · rw [decide_eq_false (fun h => c1 (by injection h))]
    have : ¬ (a1 : Int) = b1 := by omega
    simp [this]
theorem xL3 : ∀ (n : Nat) (l : List Nat),l.Nodup → (∀ x ∈ l,x < n) → l.length ≤ n
  | 0,[],_,_ => Nat.le_refl _
  | 0,x :: t,_,h => absurd (h x (by simp)) (by omega)
  | n + 1,l,hd,h => by
    have h1 := xL3 n (l.filter (fun x => decide (x ≠ n))) (hd.filter _) (fun x hx => by
      have := List.mem_filter.1 hx
      have h2 := h x this.1
      have h3 := of_decide_eq_true this.2
      omega)
    have h2 : ∀ l : List Nat,l.Nodup → l.length ≤ (l.filter (fun x => decide (x ≠ n))).length + 1 := by
      intro l hd
      induction l with
      | nil => simp
      | cons x t ih =>
        rw [List.nodup_cons] at hd
        by_cases e : x = n
        · subst e
          have : t.filter (fun y => decide (y ≠ x)) = t := List.filter_eq_self.2 fun y hy => by
            simp only [ne_eq,decide_eq_true_eq]
            rintro rfl; exact hd.1 hy
          rw [List.filter_cons_of_neg (by simp),this]; simp
        · have := ih hd.2
          simp [List.filter_cons,e] at this ⊢
          omega
    have := h2 l hd
    omega
theorem xIX {n m : Nat} {l : List (Nat × Nat)} (hd : l.Nodup) (h : ∀ x ∈ l,x.1 < n ∧ x.2 < m) : l.length ≤ n * m := by
  have h1 : (l.map fun x => x.1 * m + x.2).Nodup := by
    rw [List.nodup_iff_pairwise_ne,List.pairwise_map]
    refine List.Pairwise.imp_of_mem ?_ (List.nodup_iff_pairwise_ne.1 hd)
    intro a b ha hb hne e
    have h1 := h a ha
    have h2 := h b hb
    apply hne
    have e1 : a.1 = b.1 := by
      have h3 : (a.1 * m + a.2) / m = a.1 := by rw [Nat.mul_comm,Nat.mul_add_div (by omega),Nat.div_eq_of_lt h1.2]; omega
      have h4 : (b.1 * m + b.2) / m = b.1 := by rw [Nat.mul_comm,Nat.mul_add_div (by omega),Nat.div_eq_of_lt h2.2]; omega
      rw [← h3,← h4,e]
    have e2 : a.2 = b.2 := by rw [e1] at e; omega
    exact Prod.ext e1 e2
  have := xL3 (n * m) _ h1 (by
    intro x hx
    obtain ⟨a,ha,rfl⟩ := List.mem_map.1 hx
    have h1 := h a ha
    have : (a.1 + 1) * m ≤ n * m := Nat.mul_le_mul_right m (by omega)
    rw [Nat.add_mul,Nat.one_mul] at this
    omega)
  rwa [List.length_map] at this
def TrI (B T : Nat) (G : Heap) (ks : List (Nat × Nat)) (w : List Nat) : Prop :=
  ∃ mv wv,G[T]? = some (.cells false false [mv,wv]) ∧
    ((mv = .nilm ∧ ks = []) ∨ ∃ q,mv = .mp q ∧ B ≤ q ∧ G[q]? = some (.mp (ent kv2 ks 0))) ∧
    ((wv = .sl true 0 [] ∧ w = []) ∨ ∃ p,wv = .own false p 0 w.length 1 ∧ B ≤ p ∧ G[p]? = some (.cells false false (bs w)))
abbrev xCE : AV := .agg [.sl true 0 [],.sl true 0 []]
section
variable {B T : Nat} {G : Heap} {ks : List (Nat × Nat)} {w : List Nat} {k : Nat × Nat}
theorem xYj (hT : T < B) (hB : B ≤ G.length) (h : TrI B T G ks w) (hk : k ∉ ks) (hl : w.length = ks.length) (hw : w.length < 1099511627776) :
    ∃ G',L.icall (.func 54 []) [.ptr T 0,kv2 k] G = some (.tup [xCE,.bool false],G') ∧ TrI B T G' (ks ++ [k]) w ∧ Kt B T G G' := by
  obtain ⟨mv,wv,h1,h2,h3⟩ := h
  obtain ⟨k1,k2⟩ := k
  have hu := xWu xWv (k1,k2) ks 0 hk
  have hf := xL2 xWv (k1,k2) ks 0
  rw [if_neg hk] at hf
  rw [Nat.zero_add,← hl] at hu
  have hG := xG3 h1
  have hlen : yCg wv = some (.int .i64 (w.length : Nat)) := by
    rcases h3 with ⟨rfl,rfl⟩ | ⟨p,rfl,hp,hpw⟩ <;> rfl
  have hcell : wv.isCell = true := by
    rcases h3 with ⟨rfl,rfl⟩ | ⟨p,rfl,hp,hpw⟩ <;> rfl
  simp only [kv2] at hu hf ⊢
  rcases h2 with ⟨rfl,rfl⟩ | ⟨q,rfl,hq,hqm⟩
  · have hu' : xTH (.agg [.int .i64 (k1 : Nat),.int .i64 (k2 : Nat)]) (.int .i64 (w.length : Nat)) [] = some (ent kv2 [(k1,k2)] 0) := hu
    refine ⟨G.set T (.cells false false [.mp (G.length + 2),wv]) ++ [.cells false false [.int .i64 (k1 : Nat),.int .i64 (k2 : Nat)],.cells false false [.sl true 0 [],.sl true 0 []],.mp (ent kv2 [(k1,k2)] 0)],?_,⟨.mp (G.length + 2),wv,?_,.inr ⟨G.length + 2,rfl,by omega,?_⟩,?_⟩,?_,?_⟩
    · rw [yDq,a54]
      simp (maxSteps := 30000000) (disch := first | assumption | omega | (simp only [WL,AV.isCell,List.length_modify] <;> omega) | rfl | decide) only [↓reduceIte,WB,xAL,xAb,xAK,xAp,xAo,AV.cells,AV.isCell,xAa,xAd,xAe,xAr,xAs,xAt,xAu,xAv,xAw,xAJ,xAx,xAy,xAj,xAz,xAk,xAl,xAA,xAm,xAn,xAi,Nat.reduceDiv,Nat.reduceMod,WP,xAG,xAC,xA2,xA0,xAZ,xAF,xAI,xAH,WM,W2,xAf,xAg,xAh,Nat.reduceAdd,Nat.reduceSub,Nat.reduceLeDiff,Nat.reduceMul,Int.reduceAdd,Int.reduceSub,Int.reduceMul,Int.reduceLT,Int.reduceLE,Int.reduceEq,Int.reduceToNat,Int.reduceNeg,Nat.reduceEqDiff,Nat.reduceBEq,Nat.reduceLT,xBz,xB1,xB7,xCg,xCh,xCi,yA7,xBA,xB4,xWt,List.length_modify,xPR,xIW,xL0,xL1,xGa,xEQ,xER,List.set_set,h1,hu',hlen,hcell,xFY]
    · rw [xBz (by simpa using hG),xB4 hG]
    · rw [xB1 (by simp)]; rfl
    · rcases h3 with h3 | ⟨p,rfl,hp,hpw⟩
      · exact .inl h3
      · have := xG3 hpw
        exact .inr ⟨p,rfl,hp,by rw [xBz (by simpa using this),xBA (by rintro rfl; omega),hpw]⟩
    · simp
    · intro b hb ht
      rw [xBz (by simp; omega),xBA (fun e => ht e.symm)]
  · have hGq := xG3 hqm
    refine ⟨G.set q (.mp (ent kv2 (ks ++ [(k1,k2)]) 0)) ++ [.cells false false [.int .i64 (k1 : Nat),.int .i64 (k2 : Nat)],.cells false false [.sl true 0 [],.sl true 0 []]],?_,⟨.mp q,wv,?_,.inr ⟨q,rfl,hq,?_⟩,?_⟩,?_,?_⟩
    · rw [yDq,a54]
      simp (maxSteps := 30000000) (disch := first | assumption | omega | (simp only [WL,AV.isCell,List.length_modify] <;> omega) | rfl | decide) only [↓reduceIte,WB,xAL,xAb,xAK,xAp,xAo,AV.cells,AV.isCell,xAa,xAd,xAe,xAr,xAs,xAt,xAu,xAv,xAw,xAJ,xAx,xAy,xAj,xAz,xAk,xAl,xAA,xAm,xAn,xAi,Nat.reduceDiv,Nat.reduceMod,WP,xAG,xAC,xA2,xA0,xAZ,xAF,xAI,xAH,WM,W2,xAf,xAg,xAh,Nat.reduceAdd,Nat.reduceSub,Nat.reduceLeDiff,Nat.reduceMul,Int.reduceAdd,Int.reduceSub,Int.reduceMul,Int.reduceLT,Int.reduceLE,Int.reduceEq,Int.reduceToNat,Int.reduceNeg,Nat.reduceEqDiff,Nat.reduceBEq,Nat.reduceLT,xBz,xB1,xB7,xCg,xCh,xCi,yA7,xBA,xB4,xWt,List.length_modify,xPR,xIW,xL0,xL1,xGa,xEQ,xER,List.set_set,h1,hu,hf,hlen,hqm]
    · rw [xBz (by simpa using hG),xBA (by omega),h1]
    · rw [xBz (by simpa using hGq),xB4 hGq]
    · rcases h3 with h3 | ⟨p,rfl,hp,hpw⟩
      · exact .inl h3
      · have := xG3 hpw
        exact .inr ⟨p,rfl,hp,by rw [xBz (by simpa using this),xBA (by rintro rfl; rw [hpw] at hqm; cases hqm),hpw]⟩
    · simp
    · intro b hb ht
      rw [xBz (by simp; omega),xBA (by omega)]
theorem xYk (hT : T < B) (hB : B ≤ G.length) (h : TrI B T G ks w) (hk : k ∈ ks) (hl : w.length = ks.length) (hw : w.length < 1099511627776) :
    ∃ G' a b p' q',L.icall (.func 54 []) [.ptr T 0,kv2 k] G = some (.tup [.agg [.own false a 0 p'.length 1,.own false b 0 q'.length 1],.bool true],G') ∧
      Canon (xBh (w.take (pos k ks)) (w.drop (pos k ks))) p' q' ∧ B ≤ a ∧ B ≤ b ∧ a ≠ b ∧ G'[a]? = some (.cells false false (bs p')) ∧ G'[b]? = some (.cells false false (bs q')) ∧
      p'.length ≤ w.length ∧ q'.length ≤ w.length ∧ Kt B T G G' := by
  obtain ⟨mv,wv,h1,h2,h3⟩ := h
  have hn := xO6 hk
  have hf := xL2 xWv k ks 0
  rw [if_pos hk,Nat.zero_add] at hf
  generalize pos k ks = n at *
  obtain ⟨k1,k2⟩ := k
  have hG := xG3 h1
  rcases h2 with ⟨rfl,rfl⟩ | ⟨q,rfl,hq,hqm⟩
  · simp at hn
  rcases h3 with ⟨rfl,rfl⟩ | ⟨p,rfl,hp,hpw⟩
  · simp at hl; omega
  have hGp := xG3 hpw
  have hGq := xG3 hqm
  have e1 : (w.take n).length = n := by rw [List.length_take]; omega
  have e2 : (w.drop n).length = w.length - n := List.length_drop ..
  obtain ⟨p',q',c1,c2,c3,-,c5⟩ := xWf false (w.take n) (w.drop n) (by omega) (by omega)
  have e3 : (xA7 (w.drop n)).length = w.length - n := by rw [xCY]; omega
  have hn2 : (n : Int) ≤ (w.length : Nat) := by omega
  simp only [las,xBf,e1,e2] at c5
  simp only [kv2] at hf ⊢
  refine ⟨(G.modify p xAo).modify p xAo ++ [.cells false false [.int .i64 (k1 : Nat),.int .i64 (k2 : Nat)],.cells false false [.own false (G.length + 2) 0 p'.length 1,.own false (G.length + 3) 0 q'.length 1],.cells false false (bs p'),.cells false false (bs q')],G.length + 2,G.length + 3,p',q',?_,c1,by omega,by omega,by omega,?_,?_,by omega,by omega,?_,?_⟩
  · rw [yDq,a54]
    simp (maxSteps := 30000000) (disch := first | assumption | omega | (simp only [WL,AV.isCell,List.length_modify] <;> omega) | rfl | decide) only [↓reduceIte,WB,xAL,xAb,xAK,xAp,xAo,AV.cells,AV.isCell,xAa,xAd,xAe,xAr,xAs,xAt,xAu,xAv,xAw,xAJ,xAx,xAy,xAj,xAz,xAk,xAl,xAA,xAm,xAn,xAi,Nat.reduceDiv,Nat.reduceMod,WP,xAG,xAC,xA2,xA0,xAZ,xAF,xAI,xAH,WM,W2,xAf,xAg,xAh,Nat.reduceAdd,Nat.reduceSub,Nat.reduceLeDiff,Nat.reduceMul,Int.reduceAdd,Int.reduceSub,Int.reduceMul,Int.reduceLT,Int.reduceLE,Int.reduceEq,Int.reduceToNat,Int.reduceNeg,Nat.reduceEqDiff,Nat.reduceBEq,Nat.reduceLT,xBz,xB1,xB7,xCg,xCh,xCi,yA7,xBA,xB4,xWt,List.length_modify,xPR,xIW,xL0,xL1,xGa,xEQ,xER,List.set_set,h1,hf,hqm,hpw,hn2,c5]
  · rw [xB1 (by simp)]; rfl
  · rw [xB1 (by simp)]; rfl
  · simp
  · intro b hb ht
    rw [xBz (by simp; omega),xWt (by omega),xWt (by omega)]
end
def two (m : Nat) : Nat := 2 ^ m
theorem xED {v : Nat} (h : v ≤ 6) : two v ≤ 64 ∧ 0 < two v := by
  have : v = 0 ∨ v = 1 ∨ v = 2 ∨ v = 3 ∨ v = 4 ∨ v = 5 ∨ v = 6 := by omega
  unfold two
  rcases this with e | e | e | e | e | e | e <;> rw [e] <;> decide
theorem xES {v : Nat} (h : v ≤ 6) : IntKind.i64.wrap (1 * 2 ^ min v IntKind.i64.bits) = (two v : Nat) := by
  have : v = 0 ∨ v = 1 ∨ v = 2 ∨ v = 3 ∨ v = 4 ∨ v = 5 ∨ v = 6 := by omega
  rcases this with rfl | rfl | rfl | rfl | rfl | rfl | rfl <;> decide
def xET (k : Nat) (l : List Nat) : Bool := l.any fun x => decide (k ≤ x)
theorem xR7 {k : Nat} (h : 0 < k) : ∀ l,xET k l = decide (k ≤ xI3 l)
  | [] => by simp [xET,xI3]; omega
  | x :: t => by
    have ih := xR7 h t
    unfold xET at ih ⊢
    rw [List.any_cons,ih,xI3]
    by_cases c : k ≤ x
    · rw [decide_eq_true c,decide_eq_true (show k ≤ max x (xI3 t) by omega)]; rfl
    · rw [decide_eq_false c]
      by_cases c2 : k ≤ xI3 t
      · rw [decide_eq_true c2,decide_eq_true (show k ≤ max x (xI3 t) by omega)]; rfl
      · rw [decide_eq_false c2,decide_eq_false (show ¬ k ≤ max x (xI3 t) by omega)]; rfl
theorem xWw {b : Nat} (hb : 0 < b) : ∀ {l : List Nat},(∀ x ∈ l,x < b) → xI3 l < b
  | [],_ => hb
  | x :: t,h => by
    have h1 := h x (by simp)
    have h2 := xWw hb (l := t) fun y hy => h y (by simp [hy])
    simp only [xI3]; omega
def xFF (n wi wo : Nat) (r : Rw) (e : Wd) : Int := if r.l.length = wi ∧ e.l.length = wi then (if xPM n r.l = true then 8 else if xET wo e.l = true then 1 else 0) else 2
def xCK (n wi wo : Nat) : List Rw → List Wd → Int
  | r :: t,e :: u => if xFF n wi wo r e = 0 then xCK n wi wo t u else xFF n wi wo r e
  | _,_ => 0
def xFH (m : Mf) : Int := if xDQ m.i m.o (m.next.length : Nat) (m.emit.length : Nat) m.s = 0 then xCK m.next.length (two m.i.toNat) (two m.o.toNat) m.next m.emit else xDQ m.i m.o (m.next.length : Nat) (m.emit.length : Nat) m.s
structure Sm (m : Mf) : Prop where
  i : -9223372036854775808 ≤ m.i ∧ m.i < 9223372036854775808
  o : -9223372036854775808 ≤ m.o ∧ m.o < 9223372036854775808
  n : m.next.length ≤ 100000
  e : m.emit.length ≤ 100000
  r : ∀ r ∈ m.next,r.l.length ≤ 100000
  w : ∀ w ∈ m.emit,w.l.length ≤ 100000
  b : ∀ w ∈ m.emit,∀ x ∈ w.l,x < 256
theorem xEU {i o n k s : Int} (h : xDQ i o n k s = 0) : 0 ≤ i ∧ 0 ≤ o ∧ i + o ≤ 6 ∧ 0 ≠ n ∧ n ≤ 4096 ∧ k = n ∧ 0 ≤ s ∧ s < n := by
  unfold xDQ at h
  split at h
  · omega
  split at h
  · omega
  split at h
  · omega
  split at h
  · omega
  split at h
  · omega
  omega
theorem xR8 {a b : Nat} (h : ¬ a = b) : (((a : Nat) : Int) = ((b : Nat) : Int)) = False := eq_false (by omega)
section
variable {m : Mf} {mi mo : Nat}
theorem xYl (hS : Sm m) (hi : m.i = (mi : Nat)) (ho : m.o = (mo : Nat)) (hi6 : mi ≤ 6) (ho6 : mo ≤ 6) (hne : m.emit.length = m.next.length) : ∀ e i,i + e = m.next.length →
    ∃ i' : Nat,L.loop xMV xXi ⟨xJB (.ptr 0 0) (.int .i64 0) (.int .i64 (m.next.length : Nat)) (.sl m.z m.next.length (m.next.map rwV)) (.int .i64 (m.next.length : Nat)) (.int .i64 (i : Nat)),[.cells false false m.cells]⟩ =
      some (if xCK m.next.length (two mi) (two mo) (m.next.drop i) (m.emit.drop i) = 0 then (.exit 0,⟨xJB (.ptr 0 0) (.int .i64 0) (.int .i64 (m.next.length : Nat)) (.sl m.z m.next.length (m.next.map rwV)) (.int .i64 (m.next.length : Nat)) (.int .i64 (m.next.length : Nat)),[.cells false false m.cells]⟩)
        else (.ret,⟨xJB (.ptr 0 0) (.int .i64 (xCK m.next.length (two mi) (two mo) (m.next.drop i) (m.emit.drop i))) (.int .i64 (m.next.length : Nat)) (.sl m.z m.next.length (m.next.map rwV)) (.int .i64 (m.next.length : Nat)) (.int .i64 (i' : Nat)),[.cells false false m.cells]⟩)) := by
  have hn := hS.n
  have hsi := xES hi6
  have hso := xES ho6
  have htwo := (xED hi6).2
  have htwo' := (xED ho6).2
  have hi0 : ¬ ((mi : Nat) : Int) < 0 := by omega
  have ho0 : ¬ ((mo : Nat) : Int) < 0 := by omega
  unfold Mf.cells
  rw [hi,ho]
  intro e
  induction e with
  | zero =>
    intro i h
    obtain rfl : i = m.next.length := by omega
    refine ⟨0,?_⟩
    rw [if_pos (by rw [List.drop_length]; rfl),xJC]
    simp (maxSteps := 30000000) (disch := first | assumption | omega | (simp only [WL,AV.isCell] <;> omega) | rfl | decide) only [↓reduceIte,WB,xAL,xAb,xAK,xAp,xAo,AV.cells,AV.isCell,xAa,xAd,xAe,W2,xAf,xAg,xAh,Nat.reduceAdd,Nat.reduceSub,Nat.reduceLeDiff,Nat.reduceMul,Int.reduceAdd,Int.reduceSub,Int.reduceMul,Int.reduceLT,Int.reduceLE,Int.reduceEq,Int.reduceToNat,Int.reduceNeg,Nat.reduceEqDiff,Nat.reduceBEq,Nat.reduceLT,xAQ,xAR,List.length_map,xFi,xFj]
  | succ e ih =>
    intro i h
    have hlt : (i : Int) < (m.next.length : Nat) := by omega
    obtain ⟨i',ih'⟩ := ih (i + 1) (by omega)
    have hr1 := xBk (a := r0) (show i < m.next.length by omega)
    have hw1 := xBk (a := w0) (show i < m.emit.length by omega)
    have hr := hS.r _ hr1
    have hw := hS.w _ hw1
    have hb := xWw (by decide) (hS.b _ hw1)
    have h60 := xWa (z := (m.next.getD i r0).z) (l := (m.next.getD i r0).l) (n := (m.next.length : Nat)) (by omega)
    have h61 : (m.emit.getD i w0).l.length = two mi → _ := fun e => yD2 (z := (m.emit.getD i w0).z) (l := (m.emit.getD i w0).l) (by omega) (by omega)
    have hbig := xR7 htwo' (m.emit.getD i w0).l
    rw [xBb (a := r0) (by omega : i < m.next.length),xBb (a := w0) (by omega : i < m.emit.length)]
    have et : ∀ n wi wo r t e u,xCK n wi wo (r :: t) (e :: u) = if xFF n wi wo r e = 0 then xCK n wi wo t u else xFF n wi wo r e := fun _ _ _ _ _ _ _ => rfl
    rw [et]
    generalize hR : m.next.getD i r0 = R at *
    generalize hW : m.emit.getD i w0 = W at *
    have hrv : rwV R = .sl R.z R.l.length (xCe R.l) := rfl
    have hwv : wdV W = .sl W.z W.l.length (bs W.l) := rfl
    by_cases c1 : R.l.length = two mi
    · by_cases c2 : W.l.length = two mi
      · have h61' := h61 c2
        rw [c2] at h61'
        rw [c1] at h60
        cases c3 : xPM m.next.length R.l with
        | true =>
          have e0 : xFF m.next.length (two mi) (two mo) R W = 8 := by unfold xFF; rw [if_pos ⟨c1,c2⟩,if_pos c3]
          rw [c3] at h60
          simp only [e0,if_neg (show ¬ (8 : Int) = 0 by decide)]
          refine ⟨i,?_⟩
          rw [xJC]
          simp (maxSteps := 30000000) (disch := first | assumption | omega | (simp only [WL,AV.isCell] <;> omega) | rfl | decide) only [↓reduceIte,WB,xAL,xAb,xAK,xAp,xAo,AV.cells,AV.isCell,xAa,xAd,xAe,W2,xAf,xAg,xAh,Nat.reduceAdd,Nat.reduceSub,Nat.reduceLeDiff,Nat.reduceMul,Int.reduceAdd,Int.reduceSub,Int.reduceMul,Int.reduceLT,Int.reduceLE,Int.reduceEq,Int.reduceToNat,Int.reduceNeg,Nat.reduceEqDiff,Nat.reduceBEq,Nat.reduceLT,xAQ,xAR,List.length_map,xFi,xFj,hlt,hi0,ho0,hsi,hso,hR,hW,hrv,hwv,c1,c2,h60]
        | false =>
          rw [c3] at h60
          cases c4 : xET (two mo) W.l with
          | true =>
            have e0 : xFF m.next.length (two mi) (two mo) R W = 1 := by unfold xFF; rw [if_pos ⟨c1,c2⟩,if_neg (by simp [c3]),if_pos c4]
            rw [c4] at hbig
            have c5 : ((two mo : Nat) : Int) ≤ (xI3 W.l : Nat) := by have := of_decide_eq_true hbig.symm; omega
            simp only [e0,if_neg (show ¬ (1 : Int) = 0 by decide)]
            refine ⟨i,?_⟩
            rw [xJC]
            simp (maxSteps := 30000000) (disch := first | assumption | omega | (simp only [WL,AV.isCell] <;> omega) | rfl | decide) only [↓reduceIte,WB,xAL,xAb,xAK,xAp,xAo,AV.cells,AV.isCell,xAa,xAd,xAe,W2,xAf,xAg,xAh,Nat.reduceAdd,Nat.reduceSub,Nat.reduceLeDiff,Nat.reduceMul,Int.reduceAdd,Int.reduceSub,Int.reduceMul,Int.reduceLT,Int.reduceLE,Int.reduceEq,Int.reduceToNat,Int.reduceNeg,Nat.reduceEqDiff,Nat.reduceBEq,Nat.reduceLT,xAQ,xAR,List.length_map,xFi,xFj,hlt,hi0,ho0,hsi,hso,hR,hW,hrv,hwv,c1,c2,h60,h61',c5]
          | false =>
            have e0 : xFF m.next.length (two mi) (two mo) R W = 0 := by unfold xFF; rw [if_pos ⟨c1,c2⟩,if_neg (by simp [c3]),if_neg (by simp [c4])]
            rw [c4] at hbig
            have c5 : ¬ ((two mo : Nat) : Int) ≤ (xI3 W.l : Nat) := by have := of_decide_eq_false hbig.symm; omega
            rw [if_pos e0]
            refine ⟨i',?_⟩
            rw [xJC]
            by_cases e : xCK m.next.length (two mi) (two mo) (m.next.drop (i + 1)) (m.emit.drop (i + 1)) = 0
            · rw [if_pos e] at ih' ⊢
              simp (maxSteps := 30000000) (disch := first | assumption | omega | (simp only [WL,AV.isCell] <;> omega) | rfl | decide) only [↓reduceIte,WB,xAL,xAb,xAK,xAp,xAo,AV.cells,AV.isCell,xAa,xAd,xAe,W2,xAf,xAg,xAh,Nat.reduceAdd,Nat.reduceSub,Nat.reduceLeDiff,Nat.reduceMul,Int.reduceAdd,Int.reduceSub,Int.reduceMul,Int.reduceLT,Int.reduceLE,Int.reduceEq,Int.reduceToNat,Int.reduceNeg,Nat.reduceEqDiff,Nat.reduceBEq,Nat.reduceLT,xAQ,xAR,List.length_map,xFi,xFj,hlt,hi0,ho0,hsi,hso,hR,hW,hrv,hwv,c1,c2,h60,h61',c5,ih']
            · rw [if_neg e] at ih' ⊢
              simp (maxSteps := 30000000) (disch := first | assumption | omega | (simp only [WL,AV.isCell] <;> omega) | rfl | decide) only [↓reduceIte,WB,xAL,xAb,xAK,xAp,xAo,AV.cells,AV.isCell,xAa,xAd,xAe,W2,xAf,xAg,xAh,Nat.reduceAdd,Nat.reduceSub,Nat.reduceLeDiff,Nat.reduceMul,Int.reduceAdd,Int.reduceSub,Int.reduceMul,Int.reduceLT,Int.reduceLE,Int.reduceEq,Int.reduceToNat,Int.reduceNeg,Nat.reduceEqDiff,Nat.reduceBEq,Nat.reduceLT,xAQ,xAR,List.length_map,xFi,xFj,hlt,hi0,ho0,hsi,hso,hR,hW,hrv,hwv,c1,c2,h60,h61',c5,ih']
      · have e0 : xFF m.next.length (two mi) (two mo) R W = 2 := by unfold xFF; rw [if_neg (fun h => c2 h.2)]
        have c2' := xR8 c2
        simp only [e0,if_neg (show ¬ (2 : Int) = 0 by decide)]
        refine ⟨i,?_⟩
        rw [xJC]
        simp (maxSteps := 30000000) (disch := first | assumption | omega | (simp only [WL,AV.isCell] <;> omega) | rfl | decide) only [↓reduceIte,WB,xAL,xAb,xAK,xAp,xAo,AV.cells,AV.isCell,xAa,xAd,xAe,W2,xAf,xAg,xAh,Nat.reduceAdd,Nat.reduceSub,Nat.reduceLeDiff,Nat.reduceMul,Int.reduceAdd,Int.reduceSub,Int.reduceMul,Int.reduceLT,Int.reduceLE,Int.reduceEq,Int.reduceToNat,Int.reduceNeg,Nat.reduceEqDiff,Nat.reduceBEq,Nat.reduceLT,xAQ,xAR,List.length_map,xFi,xFj,hlt,hi0,ho0,hsi,hso,hR,hW,hrv,hwv,c1,c2']
    · have e0 : xFF m.next.length (two mi) (two mo) R W = 2 := by unfold xFF; rw [if_neg (fun h => c1 h.1)]
      have c1' := xR8 c1
      simp only [e0,if_neg (show ¬ (2 : Int) = 0 by decide)]
      refine ⟨i,?_⟩
      rw [xJC]
      simp (maxSteps := 30000000) (disch := first | assumption | omega | (simp only [WL,AV.isCell] <;> omega) | rfl | decide) only [↓reduceIte,WB,xAL,xAb,xAK,xAp,xAo,AV.cells,AV.isCell,xAa,xAd,xAe,W2,xAf,xAg,xAh,Nat.reduceAdd,Nat.reduceSub,Nat.reduceLeDiff,Nat.reduceMul,Int.reduceAdd,Int.reduceSub,Int.reduceMul,Int.reduceLT,Int.reduceLE,Int.reduceEq,Int.reduceToNat,Int.reduceNeg,Nat.reduceEqDiff,Nat.reduceBEq,Nat.reduceLT,xAQ,xAR,List.length_map,xFi,xFj,hlt,hi0,ho0,hsi,hso,hR,hW,hrv,hwv,c1']
theorem xL4 (hS : Sm m) : L.pcall 21 [m.av] = some (.int .i64 (xFH m)) := by
  have hz := yAZ (n := (m.next.length : Nat)) (k := (m.emit.length : Nat)) (s := m.s) hS.i hS.o
  unfold xFH
  unfold Mf.av
  by_cases c : xDQ m.i m.o (m.next.length : Nat) (m.emit.length : Nat) m.s = 0
  · rw [if_pos c]
    have hc := xEU c
    rw [c] at hz
    obtain ⟨i',h⟩ := xYl (m := m) (mi := m.i.toNat) (mo := m.o.toNat) hS (by omega) (by omega) (by omega) (by omega) (by omega) m.next.length 0 (by omega)
    simp only [Int.natCast_zero,List.drop_zero] at h
    unfold Mf.cells at h ⊢
    rw [yEd,a21,xAB]
    by_cases e : xCK m.next.length (two m.i.toNat) (two m.o.toNat) m.next m.emit = 0
    · rw [if_pos e] at h
      rw [e]
      simp (maxSteps := 30000000) (disch := first | assumption | omega | (simp only [WL,AV.isCell] <;> omega) | rfl | decide) only [↓reduceIte,WB,xAL,xAb,xAK,xAp,xAo,AV.cells,AV.isCell,xAa,xAd,xAe,W2,xAf,xAg,xAh,Nat.reduceAdd,Nat.reduceSub,Nat.reduceLeDiff,Nat.reduceMul,Int.reduceAdd,Int.reduceSub,Int.reduceMul,Int.reduceLT,Int.reduceLE,Int.reduceEq,Int.reduceToNat,Int.reduceNeg,Nat.reduceEqDiff,Nat.reduceBEq,Nat.reduceLT,xAQ,xAR,List.length_map,xFj,hz,h]
    · rw [if_neg e] at h
      simp (maxSteps := 30000000) (disch := first | assumption | omega | (simp only [WL,AV.isCell] <;> omega) | rfl | decide) only [↓reduceIte,WB,xAL,xAb,xAK,xAp,xAo,AV.cells,AV.isCell,xAa,xAd,xAe,W2,xAf,xAg,xAh,Nat.reduceAdd,Nat.reduceSub,Nat.reduceLeDiff,Nat.reduceMul,Int.reduceAdd,Int.reduceSub,Int.reduceMul,Int.reduceLT,Int.reduceLE,Int.reduceEq,Int.reduceToNat,Int.reduceNeg,Nat.reduceEqDiff,Nat.reduceBEq,Nat.reduceLT,xAQ,xAR,List.length_map,xFj,hz,h]
  · rw [if_neg c]
    unfold Mf.cells
    rw [yEd,a21,xAB]
    simp (maxSteps := 30000000) (disch := first | assumption | omega | (simp only [WL,AV.isCell] <;> omega) | rfl | decide) only [↓reduceIte,WB,xAL,xAb,xAK,xAp,xAo,AV.cells,AV.isCell,xAa,xAd,xAe,W2,xAf,xAg,xAh,Nat.reduceAdd,Nat.reduceSub,Nat.reduceLeDiff,Nat.reduceMul,Int.reduceAdd,Int.reduceSub,Int.reduceMul,Int.reduceLT,Int.reduceLE,Int.reduceEq,Int.reduceToNat,Int.reduceNeg,Nat.reduceEqDiff,Nat.reduceBEq,Nat.reduceLT,xAQ,xAR,List.length_map,hz,c]
end
theorem yCV {i o : Int} (hi : -9223372036854775808 ≤ i ∧ i < 9223372036854775808) (ho : -9223372036854775808 ≤ o ∧ o < 9223372036854775808) : L.pcall 62 [.int .i64 i,.int .i64 o] = some (.int .i64 (if i < 0 ∨ o < 0 ∨ 6 < i ∨ 6 - i < o then 7 else 0)) := by
  obtain ⟨hi1,hi2⟩ := hi
  obtain ⟨ho1,ho2⟩ := ho
  rw [yEW,a62,xAB]
  by_cases c1 : i < 0
  · rw [if_pos (by omega)]
    simp (maxSteps := 30000000) (disch := first | assumption | omega | (simp only [WL,AV.isCell] <;> omega) | rfl | decide) only [↓reduceIte,WB,xAL,xAb,xAK,xAp,xAo,AV.cells,AV.isCell,xAa,xAd,xAe,W2,xAf,xAg,xAh,Nat.reduceAdd,Nat.reduceSub,Nat.reduceLeDiff,Nat.reduceMul,Int.reduceAdd,Int.reduceSub,Int.reduceMul,Int.reduceLT,Int.reduceLE,Int.reduceEq,Int.reduceToNat,Int.reduceNeg,Nat.reduceEqDiff,Nat.reduceBEq,Nat.reduceLT,xAQ,xAR,List.length_map,c1]
  by_cases c2 : o < 0
  · rw [if_pos (by omega)]
    simp (maxSteps := 30000000) (disch := first | assumption | omega | (simp only [WL,AV.isCell] <;> omega) | rfl | decide) only [↓reduceIte,WB,xAL,xAb,xAK,xAp,xAo,AV.cells,AV.isCell,xAa,xAd,xAe,W2,xAf,xAg,xAh,Nat.reduceAdd,Nat.reduceSub,Nat.reduceLeDiff,Nat.reduceMul,Int.reduceAdd,Int.reduceSub,Int.reduceMul,Int.reduceLT,Int.reduceLE,Int.reduceEq,Int.reduceToNat,Int.reduceNeg,Nat.reduceEqDiff,Nat.reduceBEq,Nat.reduceLT,xAQ,xAR,List.length_map,c1,c2]
  by_cases c3 : 6 < i
  · rw [if_pos (by omega)]
    simp (maxSteps := 30000000) (disch := first | assumption | omega | (simp only [WL,AV.isCell] <;> omega) | rfl | decide) only [↓reduceIte,WB,xAL,xAb,xAK,xAp,xAo,AV.cells,AV.isCell,xAa,xAd,xAe,W2,xAf,xAg,xAh,Nat.reduceAdd,Nat.reduceSub,Nat.reduceLeDiff,Nat.reduceMul,Int.reduceAdd,Int.reduceSub,Int.reduceMul,Int.reduceLT,Int.reduceLE,Int.reduceEq,Int.reduceToNat,Int.reduceNeg,Nat.reduceEqDiff,Nat.reduceBEq,Nat.reduceLT,xAQ,xAR,List.length_map,c1,c2,c3]
  by_cases c4 : 6 < o
  · rw [if_pos (by omega)]
    simp (maxSteps := 30000000) (disch := first | assumption | omega | (simp only [WL,AV.isCell] <;> omega) | rfl | decide) only [↓reduceIte,WB,xAL,xAb,xAK,xAp,xAo,AV.cells,AV.isCell,xAa,xAd,xAe,W2,xAf,xAg,xAh,Nat.reduceAdd,Nat.reduceSub,Nat.reduceLeDiff,Nat.reduceMul,Int.reduceAdd,Int.reduceSub,Int.reduceMul,Int.reduceLT,Int.reduceLE,Int.reduceEq,Int.reduceToNat,Int.reduceNeg,Nat.reduceEqDiff,Nat.reduceBEq,Nat.reduceLT,xAQ,xAR,List.length_map,c1,c2,c3,c4]
  by_cases c5 : 6 < i + o
  · rw [if_pos (by omega)]
    simp (maxSteps := 30000000) (disch := first | assumption | omega | (simp only [WL,AV.isCell] <;> omega) | rfl | decide) only [↓reduceIte,WB,xAL,xAb,xAK,xAp,xAo,AV.cells,AV.isCell,xAa,xAd,xAe,W2,xAf,xAg,xAh,Nat.reduceAdd,Nat.reduceSub,Nat.reduceLeDiff,Nat.reduceMul,Int.reduceAdd,Int.reduceSub,Int.reduceMul,Int.reduceLT,Int.reduceLE,Int.reduceEq,Int.reduceToNat,Int.reduceNeg,Nat.reduceEqDiff,Nat.reduceBEq,Nat.reduceLT,xAQ,xAR,List.length_map,c1,c2,c3,c4,c5]
  rw [if_neg (by omega)]
  simp (maxSteps := 30000000) (disch := first | assumption | omega | (simp only [WL,AV.isCell] <;> omega) | rfl | decide) only [↓reduceIte,WB,xAL,xAb,xAK,xAp,xAo,AV.cells,AV.isCell,xAa,xAd,xAe,W2,xAf,xAg,xAh,Nat.reduceAdd,Nat.reduceSub,Nat.reduceLeDiff,Nat.reduceMul,Int.reduceAdd,Int.reduceSub,Int.reduceMul,Int.reduceLT,Int.reduceLE,Int.reduceEq,Int.reduceToNat,Int.reduceNeg,Nat.reduceEqDiff,Nat.reduceBEq,Nat.reduceLT,xAQ,xAR,List.length_map,c1,c2,c3,c4,c5]
def yC7 (n k s : Int) : Int := if n = 0 then 3 else if 4096 < n then 10 else if k ≠ n then 2 else if s < 0 ∨ n ≤ s then 8 else 0
theorem xO8 (i o n k s : Int) : xDQ i o n k s = if i < 0 ∨ o < 0 ∨ 6 < i ∨ 6 - i < o then 7 else yC7 n k s := rfl
theorem yBa {z : Bool} {n : Nat} {cs : List AV} {k s : Int} : L.pcall 63 [.sl z n cs,.int .i64 k,.int .i64 s] = some (.int .i64 (yC7 n k s)) := by
  rw [yEX,a63,xAB]
  unfold yC7
  by_cases c5 : (n : Int) = 0
  · rw [if_pos c5]
    simp (maxSteps := 30000000) (disch := first | assumption | omega | (simp only [WL,AV.isCell] <;> omega) | rfl | decide) only [↓reduceIte,WB,xAL,xAb,xAK,xAp,xAo,AV.cells,AV.isCell,xAa,xAd,xAe,W2,xAf,xAg,xAh,Nat.reduceAdd,Nat.reduceSub,Nat.reduceLeDiff,Nat.reduceMul,Int.reduceAdd,Int.reduceSub,Int.reduceMul,Int.reduceLT,Int.reduceLE,Int.reduceEq,Int.reduceToNat,Int.reduceNeg,Nat.reduceEqDiff,Nat.reduceBEq,Nat.reduceLT,xAQ,xAR,List.length_map,c5]
  rw [if_neg c5]
  by_cases c6 : 4096 < (n : Int)
  · rw [if_pos c6]
    simp (maxSteps := 30000000) (disch := first | assumption | omega | (simp only [WL,AV.isCell] <;> omega) | rfl | decide) only [↓reduceIte,WB,xAL,xAb,xAK,xAp,xAo,AV.cells,AV.isCell,xAa,xAd,xAe,W2,xAf,xAg,xAh,Nat.reduceAdd,Nat.reduceSub,Nat.reduceLeDiff,Nat.reduceMul,Int.reduceAdd,Int.reduceSub,Int.reduceMul,Int.reduceLT,Int.reduceLE,Int.reduceEq,Int.reduceToNat,Int.reduceNeg,Nat.reduceEqDiff,Nat.reduceBEq,Nat.reduceLT,xAQ,xAR,List.length_map,c5,c6]
  rw [if_neg c6]
  by_cases c7 : k = n
  · rw [if_neg (by omega)]
    by_cases c8 : s < 0
    · rw [if_pos (by omega)]
      simp (maxSteps := 30000000) (disch := first | assumption | omega | (simp only [WL,AV.isCell] <;> omega) | rfl | decide) only [↓reduceIte,WB,xAL,xAb,xAK,xAp,xAo,AV.cells,AV.isCell,xAa,xAd,xAe,W2,xAf,xAg,xAh,Nat.reduceAdd,Nat.reduceSub,Nat.reduceLeDiff,Nat.reduceMul,Int.reduceAdd,Int.reduceSub,Int.reduceMul,Int.reduceLT,Int.reduceLE,Int.reduceEq,Int.reduceToNat,Int.reduceNeg,Nat.reduceEqDiff,Nat.reduceBEq,Nat.reduceLT,xAQ,xAR,List.length_map,c5,c6,c7,c8]
    by_cases c9 : (n : Int) ≤ s
    · rw [if_pos (by omega)]
      simp (maxSteps := 30000000) (disch := first | assumption | omega | (simp only [WL,AV.isCell] <;> omega) | rfl | decide) only [↓reduceIte,WB,xAL,xAb,xAK,xAp,xAo,AV.cells,AV.isCell,xAa,xAd,xAe,W2,xAf,xAg,xAh,Nat.reduceAdd,Nat.reduceSub,Nat.reduceLeDiff,Nat.reduceMul,Int.reduceAdd,Int.reduceSub,Int.reduceMul,Int.reduceLT,Int.reduceLE,Int.reduceEq,Int.reduceToNat,Int.reduceNeg,Nat.reduceEqDiff,Nat.reduceBEq,Nat.reduceLT,xAQ,xAR,List.length_map,c5,c6,c7,c8,c9]
    rw [if_neg (by omega)]
    simp (maxSteps := 30000000) (disch := first | assumption | omega | (simp only [WL,AV.isCell] <;> omega) | rfl | decide) only [↓reduceIte,WB,xAL,xAb,xAK,xAp,xAo,AV.cells,AV.isCell,xAa,xAd,xAe,W2,xAf,xAg,xAh,Nat.reduceAdd,Nat.reduceSub,Nat.reduceLeDiff,Nat.reduceMul,Int.reduceAdd,Int.reduceSub,Int.reduceMul,Int.reduceLT,Int.reduceLE,Int.reduceEq,Int.reduceToNat,Int.reduceNeg,Nat.reduceEqDiff,Nat.reduceBEq,Nat.reduceLT,xAQ,xAR,List.length_map,c5,c6,c7,c8,c9]
  · rw [if_pos c7]
    simp (maxSteps := 30000000) (disch := first | assumption | omega | (simp only [WL,AV.isCell] <;> omega) | rfl | decide) only [↓reduceIte,WB,xAL,xAb,xAK,xAp,xAo,AV.cells,AV.isCell,xAa,xAd,xAe,W2,xAf,xAg,xAh,Nat.reduceAdd,Nat.reduceSub,Nat.reduceLeDiff,Nat.reduceMul,Int.reduceAdd,Int.reduceSub,Int.reduceMul,Int.reduceLT,Int.reduceLE,Int.reduceEq,Int.reduceToNat,Int.reduceNeg,Nat.reduceEqDiff,Nat.reduceBEq,Nat.reduceLT,xAQ,xAR,List.length_map,c5,c6,c7]
theorem xWx {z : Bool} {l : List Int} {n : Int} {H : Heap} (hl : l.length < 9223372036854775807) : ∀ e i,i + e = l.length →
    ∃ j : Nat,L.loop xNj xXw ⟨xJR (.sl z l.length (xCe l)) (.int .i64 n) (.bool false) (.int .i64 (i : Nat)),H⟩ =
      some (if xPM n (l.drop i) = true then (.ret,⟨xJR (.sl z l.length (xCe l)) (.int .i64 n) (.bool false) (.int .i64 (j : Nat)),H⟩)
        else (.exit 0,⟨xJR (.sl z l.length (xCe l)) (.int .i64 n) (.bool false) (.int .i64 (l.length : Nat)),H⟩)) := by
  intro e
  induction e with
  | zero =>
    intro i h
    obtain rfl : i = l.length := by omega
    refine ⟨0,?_⟩
    rw [if_neg (by rw [List.drop_length]; simp [xPM]),xQt]
    simp (maxSteps := 30000000) (disch := first | assumption | omega | (simp only [WL,AV.isCell] <;> omega) | rfl | decide) only [↓reduceIte,WB,xAL,xAb,xAK,xAp,xAo,AV.cells,AV.isCell,xAa,xAd,xAe,W2,xAf,xAg,xAh,Nat.reduceAdd,Nat.reduceSub,Nat.reduceLeDiff,Nat.reduceMul,Int.reduceAdd,Int.reduceSub,Int.reduceMul,Int.reduceLT,Int.reduceLE,Int.reduceEq,Int.reduceToNat,Int.reduceNeg,Nat.reduceEqDiff,Nat.reduceBEq,Nat.reduceLT,xAQ,xAR,List.length_map,xHN,xHO]
  | succ e ih =>
    intro i h
    have hlt : (i : Int) < (l.length : Nat) := by omega
    obtain ⟨j,ih'⟩ := ih (i + 1) (by omega)
    rw [xBb (a := (0 : Int)) (by omega : i < l.length)]
    have et : xPM n (l.getD i 0 :: l.drop (i + 1)) = (decide (l.getD i 0 < 0 ∨ n ≤ l.getD i 0) || xPM n (l.drop (i + 1))) := rfl
    rw [et]
    by_cases c : l.getD i 0 < 0
    · refine ⟨i,?_⟩
      rw [decide_eq_true (Or.inl c),Bool.true_or,if_pos rfl,xQt]
      simp (maxSteps := 30000000) (disch := first | assumption | omega | (simp only [WL,AV.isCell] <;> omega) | rfl | decide) only [↓reduceIte,WB,xAL,xAb,xAK,xAp,xAo,AV.cells,AV.isCell,xAa,xAd,xAe,W2,xAf,xAg,xAh,Nat.reduceAdd,Nat.reduceSub,Nat.reduceLeDiff,Nat.reduceMul,Int.reduceAdd,Int.reduceSub,Int.reduceMul,Int.reduceLT,Int.reduceLE,Int.reduceEq,Int.reduceToNat,Int.reduceNeg,Nat.reduceEqDiff,Nat.reduceBEq,Nat.reduceLT,xAQ,xAR,List.length_map,xHN,xHO,hlt,c]
    · by_cases c2 : n ≤ l.getD i 0
      · refine ⟨i,?_⟩
        rw [decide_eq_true (Or.inr c2),Bool.true_or,if_pos rfl,xQt]
        simp (maxSteps := 30000000) (disch := first | assumption | omega | (simp only [WL,AV.isCell] <;> omega) | rfl | decide) only [↓reduceIte,WB,xAL,xAb,xAK,xAp,xAo,AV.cells,AV.isCell,xAa,xAd,xAe,W2,xAf,xAg,xAh,Nat.reduceAdd,Nat.reduceSub,Nat.reduceLeDiff,Nat.reduceMul,Int.reduceAdd,Int.reduceSub,Int.reduceMul,Int.reduceLT,Int.reduceLE,Int.reduceEq,Int.reduceToNat,Int.reduceNeg,Nat.reduceEqDiff,Nat.reduceBEq,Nat.reduceLT,xAQ,xAR,List.length_map,xHN,xHO,hlt,c,c2]
      · refine ⟨j,?_⟩
        rw [decide_eq_false (by omega),Bool.false_or,xQt]
        by_cases e : xPM n (l.drop (i + 1)) = true
        · rw [if_pos e] at ih' ⊢
          simp (maxSteps := 30000000) (disch := first | assumption | omega | (simp only [WL,AV.isCell] <;> omega) | rfl | decide) only [↓reduceIte,WB,xAL,xAb,xAK,xAp,xAo,AV.cells,AV.isCell,xAa,xAd,xAe,W2,xAf,xAg,xAh,Nat.reduceAdd,Nat.reduceSub,Nat.reduceLeDiff,Nat.reduceMul,Int.reduceAdd,Int.reduceSub,Int.reduceMul,Int.reduceLT,Int.reduceLE,Int.reduceEq,Int.reduceToNat,Int.reduceNeg,Nat.reduceEqDiff,Nat.reduceBEq,Nat.reduceLT,xAQ,xAR,List.length_map,xHN,xHO,hlt,c,c2,ih']
        · rw [if_neg e] at ih' ⊢
          simp (maxSteps := 30000000) (disch := first | assumption | omega | (simp only [WL,AV.isCell] <;> omega) | rfl | decide) only [↓reduceIte,WB,xAL,xAb,xAK,xAp,xAo,AV.cells,AV.isCell,xAa,xAd,xAe,W2,xAf,xAg,xAh,Nat.reduceAdd,Nat.reduceSub,Nat.reduceLeDiff,Nat.reduceMul,Int.reduceAdd,Int.reduceSub,Int.reduceMul,Int.reduceLT,Int.reduceLE,Int.reduceEq,Int.reduceToNat,Int.reduceNeg,Nat.reduceEqDiff,Nat.reduceBEq,Nat.reduceLT,xAQ,xAR,List.length_map,xHN,xHO,hlt,c,c2,ih']
theorem xYm {z : Bool} {l : List Int} {n : Int} (hl : l.length < 9223372036854775807) : L.pcall 64 [.sl z l.length (xCe l),.int .i64 n] = some (.bool (!xPM n l)) := by
  obtain ⟨j,h⟩ := xWx (z := z) (n := n) (H := []) hl l.length 0 (by omega)
  simp only [Int.natCast_zero,List.drop_zero] at h
  rw [yEY,a64,xAB]
  cases c : xPM n l with
  | true =>
    rw [if_pos c] at h
    simp (maxSteps := 30000000) (disch := first | assumption | omega | (simp only [WL,AV.isCell] <;> omega) | rfl | decide) only [↓reduceIte,WB,xAL,xAb,xAK,xAp,xAo,AV.cells,AV.isCell,xAa,xAd,xAe,W2,xAf,xAg,xAh,Nat.reduceAdd,Nat.reduceSub,Nat.reduceLeDiff,Nat.reduceMul,Int.reduceAdd,Int.reduceSub,Int.reduceMul,Int.reduceLT,Int.reduceLE,Int.reduceEq,Int.reduceToNat,Int.reduceNeg,Nat.reduceEqDiff,Nat.reduceBEq,Nat.reduceLT,xAQ,xAR,List.length_map,xHO,h]
  | false =>
    rw [if_neg (by simp [c])] at h
    simp (maxSteps := 30000000) (disch := first | assumption | omega | (simp only [WL,AV.isCell] <;> omega) | rfl | decide) only [↓reduceIte,WB,xAL,xAb,xAK,xAp,xAo,AV.cells,AV.isCell,xAa,xAd,xAe,W2,xAf,xAg,xAh,Nat.reduceAdd,Nat.reduceSub,Nat.reduceLeDiff,Nat.reduceMul,Int.reduceAdd,Int.reduceSub,Int.reduceMul,Int.reduceLT,Int.reduceLE,Int.reduceEq,Int.reduceToNat,Int.reduceNeg,Nat.reduceEqDiff,Nat.reduceBEq,Nat.reduceLT,xAQ,xAR,List.length_map,xHO,h]
section
variable {m : Mf} {mi mo : Nat}
theorem xYn (hS : Sm m) (ho : m.o = (mo : Nat)) (ho6 : mo ≤ 6) {k : Nat} (hk : k < m.emit.length) : ∀ e i,i + e = (m.emit.getD k w0).l.length →
    ∃ i' : Nat,L.loop xMW xXj ⟨xJE (.ptr 0 0) (.int .i64 0) (.int .i64 (k : Nat)) (.int .i64 (i : Nat)),[.cells false false m.cells]⟩ =
      some (if xET (two mo) ((m.emit.getD k w0).l.drop i) = true then (.ret,⟨xJE (.ptr 0 0) (.int .i64 1) (.int .i64 (k : Nat)) (.int .i64 (i' : Nat)),[.cells false false m.cells]⟩)
        else (.exit 2,⟨xJE (.ptr 0 0) (.int .i64 0) (.int .i64 (k : Nat)) (.int .i64 ((m.emit.getD k w0).l.length : Nat)),[.cells false false m.cells]⟩)) := by
  have hw1 := xBk (a := w0) hk
  have hw := hS.w _ hw1
  have hb := hS.b _ hw1
  have hen := hS.e
  have hso := xES ho6
  have ho0 : ¬ ((mo : Nat) : Int) < 0 := by omega
  have hwv : wdV (m.emit.getD k w0) = .sl (m.emit.getD k w0).z (m.emit.getD k w0).l.length (bs (m.emit.getD k w0).l) := rfl
  unfold Mf.cells
  rw [ho]
  intro e
  induction e with
  | zero =>
    intro i h
    obtain rfl : i = (m.emit.getD k w0).l.length := by omega
    refine ⟨0,?_⟩
    rw [if_neg (by rw [List.drop_length]; simp [xET]),xT4]
    simp (maxSteps := 30000000) (disch := first | assumption | omega | (simp only [WL,AV.isCell] <;> omega) | rfl | decide) only [↓reduceIte,WB,xAL,xAb,xAK,xAp,xAo,AV.cells,AV.isCell,xAa,xAd,xAe,W2,xAf,xAg,xAh,Nat.reduceAdd,Nat.reduceSub,Nat.reduceLeDiff,Nat.reduceMul,Int.reduceAdd,Int.reduceSub,Int.reduceMul,Int.reduceLT,Int.reduceLE,Int.reduceEq,Int.reduceToNat,Int.reduceNeg,Nat.reduceEqDiff,Nat.reduceBEq,Nat.reduceLT,xAQ,xAR,List.length_map,xJD,xHM,hwv]
  | succ e ih =>
    intro i h
    have hlt : (i : Int) < ((m.emit.getD k w0).l.length : Nat) := by omega
    obtain ⟨i',ih'⟩ := ih (i + 1) (by omega)
    have hx := hb _ (xBk (a := (0 : Nat)) (show i < (m.emit.getD k w0).l.length by omega))
    rw [xBb (a := (0 : Nat)) (by omega : i < (m.emit.getD k w0).l.length)]
    have et : ∀ t,xET (two mo) ((m.emit.getD k w0).l.getD i 0 :: t) = (decide (two mo ≤ (m.emit.getD k w0).l.getD i 0) || xET (two mo) t) := fun _ => rfl
    rw [et]
    by_cases c : two mo ≤ (m.emit.getD k w0).l.getD i 0
    · refine ⟨i,?_⟩
      have c' : ((two mo : Nat) : Int) ≤ ((m.emit.getD k w0).l.getD i 0 : Nat) := by omega
      rw [decide_eq_true c,Bool.true_or,if_pos rfl,xT4]
      simp (maxSteps := 30000000) (disch := first | assumption | omega | (simp only [WL,AV.isCell] <;> omega) | rfl | decide) only [↓reduceIte,WB,xAL,xAb,xAK,xAp,xAo,AV.cells,AV.isCell,xAa,xAd,xAe,W2,xAf,xAg,xAh,Nat.reduceAdd,Nat.reduceSub,Nat.reduceLeDiff,Nat.reduceMul,Int.reduceAdd,Int.reduceSub,Int.reduceMul,Int.reduceLT,Int.reduceLE,Int.reduceEq,Int.reduceToNat,Int.reduceNeg,Nat.reduceEqDiff,Nat.reduceBEq,Nat.reduceLT,xAQ,xAR,List.length_map,xJD,xHM,hwv,hlt,hso,ho0,c']
    · refine ⟨i',?_⟩
      have c' : ¬ ((two mo : Nat) : Int) ≤ ((m.emit.getD k w0).l.getD i 0 : Nat) := by omega
      rw [decide_eq_false c,Bool.false_or,xT4]
      by_cases e : xET (two mo) ((m.emit.getD k w0).l.drop (i + 1)) = true
      · rw [if_pos e] at ih' ⊢
        simp (maxSteps := 30000000) (disch := first | assumption | omega | (simp only [WL,AV.isCell] <;> omega) | rfl | decide) only [↓reduceIte,WB,xAL,xAb,xAK,xAp,xAo,AV.cells,AV.isCell,xAa,xAd,xAe,W2,xAf,xAg,xAh,Nat.reduceAdd,Nat.reduceSub,Nat.reduceLeDiff,Nat.reduceMul,Int.reduceAdd,Int.reduceSub,Int.reduceMul,Int.reduceLT,Int.reduceLE,Int.reduceEq,Int.reduceToNat,Int.reduceNeg,Nat.reduceEqDiff,Nat.reduceBEq,Nat.reduceLT,xAQ,xAR,List.length_map,xJD,xHM,hwv,hlt,hso,ho0,c',ih']
      · rw [if_neg e] at ih' ⊢
        simp (maxSteps := 30000000) (disch := first | assumption | omega | (simp only [WL,AV.isCell] <;> omega) | rfl | decide) only [↓reduceIte,WB,xAL,xAb,xAK,xAp,xAo,AV.cells,AV.isCell,xAa,xAd,xAe,W2,xAf,xAg,xAh,Nat.reduceAdd,Nat.reduceSub,Nat.reduceLeDiff,Nat.reduceMul,Int.reduceAdd,Int.reduceSub,Int.reduceMul,Int.reduceLT,Int.reduceLE,Int.reduceEq,Int.reduceToNat,Int.reduceNeg,Nat.reduceEqDiff,Nat.reduceBEq,Nat.reduceLT,xAQ,xAR,List.length_map,xJD,xHM,hwv,hlt,hso,ho0,c',ih']
theorem xYo (hS : Sm m) (hi : m.i = (mi : Nat)) (ho : m.o = (mo : Nat)) (hi6 : mi ≤ 6) (ho6 : mo ≤ 6) (hne : m.emit.length = m.next.length) : ∀ e i,i + e = m.next.length →
    ∃ i' : Nat,L.loop xMX xXk ⟨xJF (.ptr 0 0) (.int .i64 0) (.int .i64 (i : Nat)),[.cells false false m.cells]⟩ =
      some (if xCK m.next.length (two mi) (two mo) (m.next.drop i) (m.emit.drop i) = 0 then (.exit 0,⟨xJF (.ptr 0 0) (.int .i64 0) (.int .i64 (m.next.length : Nat)),[.cells false false m.cells]⟩)
        else (.ret,⟨xJF (.ptr 0 0) (.int .i64 (xCK m.next.length (two mi) (two mo) (m.next.drop i) (m.emit.drop i))) (.int .i64 (i' : Nat)),[.cells false false m.cells]⟩)) := by
  have hn := hS.n
  have hsi := xES hi6
  have hi0 : ¬ ((mi : Nat) : Int) < 0 := by omega
  have hword := fun k hk => xYn (m := m) (mo := mo) (k := k) hS ho ho6 hk
  unfold Mf.cells at *
  rw [hi,ho] at *
  intro e
  induction e with
  | zero =>
    intro i h
    obtain rfl : i = m.next.length := by omega
    refine ⟨0,?_⟩
    rw [if_pos (by rw [List.drop_length]; rfl),xJG]
    simp (maxSteps := 30000000) (disch := first | assumption | omega | (simp only [WL,AV.isCell] <;> omega) | rfl | decide) only [↓reduceIte,WB,xAL,xAb,xAK,xAp,xAo,AV.cells,AV.isCell,xAa,xAd,xAe,W2,xAf,xAg,xAh,Nat.reduceAdd,Nat.reduceSub,Nat.reduceLeDiff,Nat.reduceMul,Int.reduceAdd,Int.reduceSub,Int.reduceMul,Int.reduceLT,Int.reduceLE,Int.reduceEq,Int.reduceToNat,Int.reduceNeg,Nat.reduceEqDiff,Nat.reduceBEq,Nat.reduceLT,xAQ,xAR,List.length_map,xFk,xFl]
  | succ e ih =>
    intro i h
    have hlt : (i : Int) < (m.next.length : Nat) := by omega
    obtain ⟨i',ih'⟩ := ih (i + 1) (by omega)
    have hr1 := xBk (a := r0) (show i < m.next.length by omega)
    have hw1 := xBk (a := w0) (show i < m.emit.length by omega)
    have hr := hS.r _ hr1
    have hw := hS.w _ hw1
    have h64 := xYm (z := (m.next.getD i r0).z) (l := (m.next.getD i r0).l) (n := (m.next.length : Nat)) (by omega)
    obtain ⟨i2,hwd⟩ := hword i (by omega) _ 0 (Nat.zero_add _)
    simp only [Int.natCast_zero,List.drop_zero] at hwd
    rw [xBb (a := r0) (by omega : i < m.next.length),xBb (a := w0) (by omega : i < m.emit.length)]
    have et : ∀ n wi wo r t e u,xCK n wi wo (r :: t) (e :: u) = if xFF n wi wo r e = 0 then xCK n wi wo t u else xFF n wi wo r e := fun _ _ _ _ _ _ _ => rfl
    rw [et]
    generalize hR : m.next.getD i r0 = R at *
    generalize hW : m.emit.getD i w0 = W at *
    have hrv : rwV R = .sl R.z R.l.length (xCe R.l) := rfl
    have hwv : wdV W = .sl W.z W.l.length (bs W.l) := rfl
    by_cases c1 : R.l.length = two mi
    · by_cases c2 : W.l.length = two mi
      · rw [c1] at h64
        cases c3 : xPM m.next.length R.l with
        | true =>
          have e0 : xFF m.next.length (two mi) (two mo) R W = 8 := by unfold xFF; rw [if_pos ⟨c1,c2⟩,if_pos c3]
          rw [c3] at h64
          simp only [e0,if_neg (show ¬ (8 : Int) = 0 by decide)]
          refine ⟨i,?_⟩
          rw [xJG]
          simp (maxSteps := 30000000) (disch := first | assumption | omega | (simp only [WL,AV.isCell] <;> omega) | rfl | decide) only [↓reduceIte,WB,xAL,xAb,xAK,xAp,xAo,AV.cells,AV.isCell,xAa,xAd,xAe,W2,xAf,xAg,xAh,Nat.reduceAdd,Nat.reduceSub,Nat.reduceLeDiff,Nat.reduceMul,Int.reduceAdd,Int.reduceSub,Int.reduceMul,Int.reduceLT,Int.reduceLE,Int.reduceEq,Int.reduceToNat,Int.reduceNeg,Nat.reduceEqDiff,Nat.reduceBEq,Nat.reduceLT,xAQ,xAR,List.length_map,xFk,xFl,hlt,hi0,hsi,hR,hW,hrv,hwv,c1,c2,h64]
        | false =>
          rw [c3] at h64
          by_cases c4 : xET (two mo) W.l = true
          · have e0 : xFF m.next.length (two mi) (two mo) R W = 1 := by unfold xFF; rw [if_pos ⟨c1,c2⟩,if_neg (by simp [c3]),if_pos c4]
            rw [if_pos c4] at hwd
            simp only [e0,if_neg (show ¬ (1 : Int) = 0 by decide)]
            refine ⟨i,?_⟩
            rw [xJG]
            simp (maxSteps := 30000000) (disch := first | assumption | omega | (simp only [WL,AV.isCell] <;> omega) | rfl | decide) only [↓reduceIte,WB,xAL,xAb,xAK,xAp,xAo,AV.cells,AV.isCell,xAa,xAd,xAe,W2,xAf,xAg,xAh,Nat.reduceAdd,Nat.reduceSub,Nat.reduceLeDiff,Nat.reduceMul,Int.reduceAdd,Int.reduceSub,Int.reduceMul,Int.reduceLT,Int.reduceLE,Int.reduceEq,Int.reduceToNat,Int.reduceNeg,Nat.reduceEqDiff,Nat.reduceBEq,Nat.reduceLT,xAQ,xAR,List.length_map,xFk,xFl,xHM,hlt,hi0,hsi,hR,hW,hrv,hwv,c1,c2,h64,hwd]
          · have e0 : xFF m.next.length (two mi) (two mo) R W = 0 := by unfold xFF; rw [if_pos ⟨c1,c2⟩,if_neg (by simp [c3]),if_neg c4]
            rw [if_neg c4] at hwd
            rw [if_pos e0]
            refine ⟨i',?_⟩
            rw [xJG]
            by_cases e : xCK m.next.length (two mi) (two mo) (m.next.drop (i + 1)) (m.emit.drop (i + 1)) = 0
            · rw [if_pos e] at ih' ⊢
              simp (maxSteps := 30000000) (disch := first | assumption | omega | (simp only [WL,AV.isCell] <;> omega) | rfl | decide) only [↓reduceIte,WB,xAL,xAb,xAK,xAp,xAo,AV.cells,AV.isCell,xAa,xAd,xAe,W2,xAf,xAg,xAh,Nat.reduceAdd,Nat.reduceSub,Nat.reduceLeDiff,Nat.reduceMul,Int.reduceAdd,Int.reduceSub,Int.reduceMul,Int.reduceLT,Int.reduceLE,Int.reduceEq,Int.reduceToNat,Int.reduceNeg,Nat.reduceEqDiff,Nat.reduceBEq,Nat.reduceLT,xAQ,xAR,List.length_map,xFk,xFl,xHM,hlt,hi0,hsi,hR,hW,hrv,hwv,c1,c2,h64,hwd,ih']
            · rw [if_neg e] at ih' ⊢
              simp (maxSteps := 30000000) (disch := first | assumption | omega | (simp only [WL,AV.isCell] <;> omega) | rfl | decide) only [↓reduceIte,WB,xAL,xAb,xAK,xAp,xAo,AV.cells,AV.isCell,xAa,xAd,xAe,W2,xAf,xAg,xAh,Nat.reduceAdd,Nat.reduceSub,Nat.reduceLeDiff,Nat.reduceMul,Int.reduceAdd,Int.reduceSub,Int.reduceMul,Int.reduceLT,Int.reduceLE,Int.reduceEq,Int.reduceToNat,Int.reduceNeg,Nat.reduceEqDiff,Nat.reduceBEq,Nat.reduceLT,xAQ,xAR,List.length_map,xFk,xFl,xHM,hlt,hi0,hsi,hR,hW,hrv,hwv,c1,c2,h64,hwd,ih']
      · have e0 : xFF m.next.length (two mi) (two mo) R W = 2 := by unfold xFF; rw [if_neg (fun h => c2 h.2)]
        have c2' := xR8 c2
        simp only [e0,if_neg (show ¬ (2 : Int) = 0 by decide)]
        refine ⟨i,?_⟩
        rw [xJG]
        simp (maxSteps := 30000000) (disch := first | assumption | omega | (simp only [WL,AV.isCell] <;> omega) | rfl | decide) only [↓reduceIte,WB,xAL,xAb,xAK,xAp,xAo,AV.cells,AV.isCell,xAa,xAd,xAe,W2,xAf,xAg,xAh,Nat.reduceAdd,Nat.reduceSub,Nat.reduceLeDiff,Nat.reduceMul,Int.reduceAdd,Int.reduceSub,Int.reduceMul,Int.reduceLT,Int.reduceLE,Int.reduceEq,Int.reduceToNat,Int.reduceNeg,Nat.reduceEqDiff,Nat.reduceBEq,Nat.reduceLT,xAQ,xAR,List.length_map,xFk,xFl,hlt,hi0,hsi,hR,hW,hrv,hwv,c1,c2']
    · have e0 : xFF m.next.length (two mi) (two mo) R W = 2 := by unfold xFF; rw [if_neg (fun h => c1 h.1)]
      have c1' := xR8 c1
      simp only [e0,if_neg (show ¬ (2 : Int) = 0 by decide)]
      refine ⟨i,?_⟩
      rw [xJG]
      simp (maxSteps := 30000000) (disch := first | assumption | omega | (simp only [WL,AV.isCell] <;> omega) | rfl | decide) only [↓reduceIte,WB,xAL,xAb,xAK,xAp,xAo,AV.cells,AV.isCell,xAa,xAd,xAe,W2,xAf,xAg,xAh,Nat.reduceAdd,Nat.reduceSub,Nat.reduceLeDiff,Nat.reduceMul,Int.reduceAdd,Int.reduceSub,Int.reduceMul,Int.reduceLT,Int.reduceLE,Int.reduceEq,Int.reduceToNat,Int.reduceNeg,Nat.reduceEqDiff,Nat.reduceBEq,Nat.reduceLT,xAQ,xAR,List.length_map,xFk,xFl,hlt,hi0,hsi,hR,hW,hrv,hwv,c1']
theorem xL5 (hS : Sm m) : L.pcall 22 [m.av] = some (.int .i64 (xFH m)) := by
  have hv := yCV hS.i hS.o
  have ht := yBa (z := m.z) (n := m.next.length) (cs := m.next.map rwV) (k := (m.emit.length : Nat)) (s := m.s)
  unfold xFH
  rw [xO8]
  unfold Mf.av
  by_cases c0 : m.i < 0 ∨ m.o < 0 ∨ 6 < m.i ∨ 6 - m.i < m.o
  · rw [if_pos c0] at hv ⊢
    rw [if_neg (by decide)]
    unfold Mf.cells
    rw [yDp,a22,xAB]
    simp (maxSteps := 30000000) (disch := first | assumption | omega | (simp only [WL,AV.isCell] <;> omega) | rfl | decide) only [↓reduceIte,WB,xAL,xAb,xAK,xAp,xAo,AV.cells,AV.isCell,xAa,xAd,xAe,W2,xAf,xAg,xAh,Nat.reduceAdd,Nat.reduceSub,Nat.reduceLeDiff,Nat.reduceMul,Int.reduceAdd,Int.reduceSub,Int.reduceMul,Int.reduceLT,Int.reduceLE,Int.reduceEq,Int.reduceToNat,Int.reduceNeg,Nat.reduceEqDiff,Nat.reduceBEq,Nat.reduceLT,xAQ,xAR,List.length_map,hv]
  · rw [if_neg c0] at hv ⊢
    by_cases c : yC7 (m.next.length : Nat) (m.emit.length : Nat) m.s = 0
    · rw [if_pos c]
      have hc := xEU (show xDQ m.i m.o (m.next.length : Nat) (m.emit.length : Nat) m.s = 0 by rw [xO8,if_neg c0]; exact c)
      rw [c] at ht
      obtain ⟨i',h⟩ := xYo (m := m) (mi := m.i.toNat) (mo := m.o.toNat) hS (by omega) (by omega) (by omega) (by omega) (by omega) m.next.length 0 (by omega)
      simp only [Int.natCast_zero,List.drop_zero] at h
      unfold Mf.cells at h ⊢
      rw [yDp,a22,xAB]
      by_cases e : xCK m.next.length (two m.i.toNat) (two m.o.toNat) m.next m.emit = 0
      · rw [if_pos e] at h
        rw [e]
        simp (maxSteps := 30000000) (disch := first | assumption | omega | (simp only [WL,AV.isCell] <;> omega) | rfl | decide) only [↓reduceIte,WB,xAL,xAb,xAK,xAp,xAo,AV.cells,AV.isCell,xAa,xAd,xAe,W2,xAf,xAg,xAh,Nat.reduceAdd,Nat.reduceSub,Nat.reduceLeDiff,Nat.reduceMul,Int.reduceAdd,Int.reduceSub,Int.reduceMul,Int.reduceLT,Int.reduceLE,Int.reduceEq,Int.reduceToNat,Int.reduceNeg,Nat.reduceEqDiff,Nat.reduceBEq,Nat.reduceLT,xAQ,xAR,List.length_map,xFl,hv,ht,h]
      · rw [if_neg e] at h
        simp (maxSteps := 30000000) (disch := first | assumption | omega | (simp only [WL,AV.isCell] <;> omega) | rfl | decide) only [↓reduceIte,WB,xAL,xAb,xAK,xAp,xAo,AV.cells,AV.isCell,xAa,xAd,xAe,W2,xAf,xAg,xAh,Nat.reduceAdd,Nat.reduceSub,Nat.reduceLeDiff,Nat.reduceMul,Int.reduceAdd,Int.reduceSub,Int.reduceMul,Int.reduceLT,Int.reduceLE,Int.reduceEq,Int.reduceToNat,Int.reduceNeg,Nat.reduceEqDiff,Nat.reduceBEq,Nat.reduceLT,xAQ,xAR,List.length_map,xFl,hv,ht,h]
    · rw [if_neg c]
      unfold Mf.cells
      rw [yDp,a22,xAB]
      simp (maxSteps := 30000000) (disch := first | assumption | omega | (simp only [WL,AV.isCell] <;> omega) | rfl | decide) only [↓reduceIte,WB,xAL,xAb,xAK,xAp,xAo,AV.cells,AV.isCell,xAa,xAd,xAe,W2,xAf,xAg,xAh,Nat.reduceAdd,Nat.reduceSub,Nat.reduceLeDiff,Nat.reduceMul,Int.reduceAdd,Int.reduceSub,Int.reduceMul,Int.reduceLT,Int.reduceLE,Int.reduceEq,Int.reduceToNat,Int.reduceNeg,Nat.reduceEqDiff,Nat.reduceBEq,Nat.reduceLT,xAQ,xAR,List.length_map,hv,ht,c]
end
section
variable {m : Nf} {mi mo : Nat}
end
structure Ma where
  i : Nat
  o : Nat
  s : Nat
  next : List (List Nat)
  emit : List (List Nat)
def xCz (l : List Nat) : AV := .sl false l.length (xBp l)
def xCQ (l : List Nat) : AV := .sl false l.length (bs l)
def Ma.cells (M : Ma) : List AV := [.int .i64 (M.i : Nat),.int .i64 (M.o : Nat),.int .i64 (M.s : Nat),.sl false M.next.length (M.next.map xCz),.sl false M.emit.length (M.emit.map xCQ)]
def Ma.av (M : Ma) : AV := .agg M.cells
structure Vm (M : Ma) : Prop where
  io : M.i + M.o ≤ 6
  n0 : 0 < M.next.length
  n9 : M.next.length ≤ 4096
  el : M.emit.length = M.next.length
  s : M.s < M.next.length
  rl : ∀ r ∈ M.next,r.length = two M.i
  wl : ∀ w ∈ M.emit,w.length = two M.i
  rb : ∀ r ∈ M.next,∀ x ∈ r,x < M.next.length
  wb : ∀ w ∈ M.emit,∀ x ∈ w,x < two M.o
theorem xAW {l : List (List Nat)} {i : Nat} (h : i < l.length) : List.take 1 (List.drop i (l.map xCz)) = [xCz (l.getD i [])] := xLT _ _ h
theorem xAX {l : List (List Nat)} {i : Nat} (h : i < l.length) : List.take 1 (List.drop i (l.map xCQ)) = [xCQ (l.getD i [])] := xLT _ _ h
def Ma.toF (M : Ma) : Mf := ⟨M.i,M.o,M.s,false,M.next.map fun r => ⟨false,r.map Int.ofNat⟩,false,M.emit.map fun w => ⟨false,w⟩⟩
theorem xGc (l : List Nat) : xCe (l.map Int.ofNat) = xBp l := by
  unfold xCe xBp
  rw [List.map_map]; rfl
theorem Ma.toF_av (M : Ma) : M.toF.av = M.av := by
  unfold Ma.toF Mf.av Mf.cells Ma.av Ma.cells
  simp only [List.length_map,List.map_map]
  have e1 : (rwV ∘ fun r : List Nat => (⟨false,r.map Int.ofNat⟩ : Rw)) = xCz := by
    funext r
    show rwV ⟨false,r.map Int.ofNat⟩ = xCz r
    unfold rwV xCz
    simp only [List.length_map,xGc]
  have e2 : (wdV ∘ fun w : List Nat => (⟨false,w⟩ : Wd)) = xCQ := rfl
  rw [e1,e2]
structure Cn (m : Mf) : Prop where
  z : m.z = true → m.next = []
  ze : m.ze = true → m.emit = []
  r : ∀ r ∈ m.next,r.z = true → r.l = []
  w : ∀ w ∈ m.emit,w.z = true → w.l = []
theorem badR_iff {n : Int} {l : List Int} : xPM n l = false ↔ ∀ s ∈ l,0 ≤ s ∧ s < n := by
  unfold xPM
  rw [List.any_eq_false]
  constructor
  · intro h s hs
    have := h s hs
    simp only [decide_eq_true_eq] at this
    omega
  · intro h s hs
    have := h s hs
    simp only [decide_eq_true_eq]
    omega
theorem bigW_iff {k : Nat} {l : List Nat} : xET k l = false ↔ ∀ x ∈ l,x < k := by
  unfold xET
  rw [List.any_eq_false]
  constructor
  · intro h s hs
    have := h s hs
    simp only [decide_eq_true_eq] at this
    omega
  · intro h s hs
    have := h s hs
    simp only [decide_eq_true_eq]
    omega
theorem rowE_zero {n wi wo : Nat} {r : Rw} {e : Wd} : xFF n wi wo r e = 0 ↔ r.l.length = wi ∧ e.l.length = wi ∧ (∀ s ∈ r.l,0 ≤ s ∧ s < (n : Int)) ∧ ∀ x ∈ e.l,x < wo := by
  unfold xFF
  by_cases c : r.l.length = wi ∧ e.l.length = wi
  · rw [if_pos c]
    by_cases c2 : xPM n r.l = true
    · rw [if_pos c2]
      exact ⟨fun h => by omega,fun h => by rw [badR_iff.2 h.2.2.1] at c2; cases c2⟩
    · rw [if_neg c2]
      have c2' := badR_iff.1 (by simpa using c2)
      by_cases c3 : xET wo e.l = true
      · rw [if_pos c3]
        exact ⟨fun h => by omega,fun h => by rw [bigW_iff.2 h.2.2.2] at c3; cases c3⟩
      · rw [if_neg c3]
        exact ⟨fun _ => ⟨c.1,c.2,c2',bigW_iff.1 (by simpa using c3)⟩,fun _ => rfl⟩
  · rw [if_neg c]
    exact ⟨fun h => by omega,fun h => absurd ⟨h.1,h.2.1⟩ c⟩
theorem xGd {n wi wo : Nat} : ∀ {l : List Rw} {u : List Wd},l.length = u.length → (xCK n wi wo l u = 0 ↔ (∀ r ∈ l,r.l.length = wi ∧ ∀ s ∈ r.l,0 ≤ s ∧ s < (n : Int)) ∧ ∀ e ∈ u,e.l.length = wi ∧ ∀ x ∈ e.l,x < wo)
  | [],[],_ => by simp [xCK]
  | [],_ :: _,h => by simp at h
  | _ :: _,[],h => by simp at h
  | r :: t,e :: u,h => by
    have ih := xGd (n := n) (wi := wi) (wo := wo) (l := t) (u := u) (by simpa using h)
    unfold xCK
    by_cases c : xFF n wi wo r e = 0
    · have c' := rowE_zero.1 c
      rw [if_pos c,ih]
      simp only [List.forall_mem_cons]
      exact ⟨fun h => ⟨⟨⟨c'.1,c'.2.2.1⟩,h.1⟩,⟨c'.2.1,c'.2.2.2⟩,h.2⟩,fun h => ⟨h.1.2,h.2.2⟩⟩
    · rw [if_neg c]
      exact ⟨fun h => absurd h c,fun h => by
        simp only [List.forall_mem_cons] at h
        exact absurd (rowE_zero.2 ⟨h.1.1.1,h.2.1.1,h.1.1.2,h.2.1.2⟩) c⟩
theorem xO9 {m : Mf} : xFH m = 0 ↔ xDQ m.i m.o (m.next.length : Nat) (m.emit.length : Nat) m.s = 0 ∧ xCK m.next.length (two m.i.toNat) (two m.o.toNat) m.next m.emit = 0 := by
  unfold xFH
  by_cases c : xDQ m.i m.o (m.next.length : Nat) (m.emit.length : Nat) m.s = 0
  · rw [if_pos c]; exact ⟨fun h => ⟨c,h⟩,fun h => h.2⟩
  · rw [if_neg c]; exact ⟨fun h => absurd h c,fun h => absurd h.1 c⟩
def Mf.fromF (m : Mf) : Ma := ⟨m.i.toNat,m.o.toNat,m.s.toNat,m.next.map fun r => r.l.map Int.toNat,m.emit.map fun w => w.l⟩
theorem xPS (m : Nat) : 0 < two m := Nat.two_pow_pos m
theorem xWy {l : List Int} {n : Int} (h : ∀ s ∈ l,0 ≤ s ∧ s < n) : (l.map Int.toNat).map Int.ofNat = l := by
  rw [List.map_map]
  conv => rhs; rw [← List.map_id l]
  apply List.map_congr_left
  intro s hs
  have := h s hs
  show ((s.toNat : Nat) : Int) = s
  omega
theorem xWz {m : Mf} (hc : Cn m) (h : xFH m = 0) : Vm m.fromF ∧ m.fromF.toF = m := by
  rw [xO9] at h
  obtain ⟨h1,h2⟩ := h
  have h1' := xEU h1
  rw [xGd (by omega)] at h2
  obtain ⟨h3,h4⟩ := h2
  refine ⟨⟨?_,?_,?_,?_,?_,?_,?_,?_,?_⟩,?_⟩
  · show m.i.toNat + m.o.toNat ≤ 6; omega
  · show 0 < (m.next.map _).length; rw [List.length_map]; omega
  · show (m.next.map _).length ≤ 4096; rw [List.length_map]; omega
  · show (m.emit.map _).length = (m.next.map _).length; rw [List.length_map,List.length_map]; omega
  · show m.s.toNat < (m.next.map _).length; rw [List.length_map]; omega
  · intro r hr
    obtain ⟨r',hr',rfl⟩ := List.mem_map.1 hr
    rw [List.length_map]; exact (h3 r' hr').1
  · intro r hr
    obtain ⟨r',hr',rfl⟩ := List.mem_map.1 hr
    exact (h4 r' hr').1
  · intro r hr x hx
    obtain ⟨r',hr',rfl⟩ := List.mem_map.1 hr
    obtain ⟨x',hx',rfl⟩ := List.mem_map.1 hx
    show x'.toNat < (m.next.map _).length
    rw [List.length_map]
    have := (h3 r' hr').2 x' hx'
    omega
  · intro r hr
    obtain ⟨r',hr',rfl⟩ := List.mem_map.1 hr
    exact (h4 r' hr').2
  · obtain ⟨i,o,s,z,next,ze,emit⟩ := m
    simp only at *
    have e1 : z = false := by cases z with
      | false => rfl
      | true => have := hc.z rfl; simp only at this; subst this; simp at h1'
    have e2 : ze = false := by cases ze with
      | false => rfl
      | true => have := hc.ze rfl; simp only at this; subst this; simp at h1'; omega
    subst e1 e2
    unfold Mf.fromF Ma.toF
    simp only [List.map_map,Mf.mk.injEq,true_and]
    have hp := xPS i.toNat
    refine ⟨by omega,by omega,by omega,?_,?_⟩
    · conv => rhs; rw [← List.map_id next]
      apply List.map_congr_left
      intro r hr
      have hz := hc.r r hr
      have hh := h3 r hr
      obtain ⟨z,l⟩ := r
      simp only [Function.comp] at *
      rw [xWy hh.2]
      cases z with
      | false => rfl
      | true => have := hz rfl; subst this; simp at hh; omega
    · conv => rhs; rw [← List.map_id emit]
      apply List.map_congr_left
      intro r hr
      have hz := hc.w r hr
      have hh := h4 r hr
      obtain ⟨z,l⟩ := r
      simp only [Function.comp] at *
      cases z with
      | false => rfl
      | true => have := hz rfl; subst this; simp at hh; omega
theorem xWA {M : Ma} (hV : Vm M) : xFH M.toF = 0 := by
  have io := hV.io
  have n0 := hV.n0
  have n9 := hV.n9
  have el := hV.el
  have hs := hV.s
  rw [xO9]
  have hl : M.toF.next.length = M.next.length := List.length_map ..
  have hl2 : M.toF.emit.length = M.emit.length := List.length_map ..
  have hi : M.toF.i = (M.i : Nat) := rfl
  have ho : M.toF.o = (M.o : Nat) := rfl
  have hst : M.toF.s = (M.s : Nat) := rfl
  rw [hl,hl2,hi,ho,hst,xGd (by omega)]
  refine ⟨by unfold xDQ; rw [if_neg (by omega),if_neg (by omega),if_neg (by omega),if_neg (by omega),if_neg (by omega)],fun r hr => ?_,fun r hr => ?_⟩
  · obtain ⟨r',hr',rfl⟩ := List.mem_map.1 hr
    refine ⟨by rw [List.length_map]; exact hV.rl _ hr',fun s hs => ?_⟩
    obtain ⟨x,hx,rfl⟩ := List.mem_map.1 hs
    have := hV.rb _ hr' _ hx
    show 0 ≤ ((x : Nat) : Int) ∧ ((x : Nat) : Int) < _
    omega
  · obtain ⟨r',hr',rfl⟩ := List.mem_map.1 hr
    exact ⟨hV.wl _ hr',hV.wb _ hr'⟩
theorem xR9 {M : Ma} (hV : Vm M) : Sm M.toF := by
  have io := hV.io
  have n9 := hV.n9
  have el := hV.el
  have b1 := (xED (show M.i ≤ 6 by omega)).1
  have b2 := (xED (show M.o ≤ 6 by omega)).1
  refine ⟨?_,?_,?_,?_,fun r hr => ?_,fun r hr => ?_,fun r hr => ?_⟩
  · show _ ≤ ((M.i : Nat) : Int) ∧ ((M.i : Nat) : Int) < _; omega
  · show _ ≤ ((M.o : Nat) : Int) ∧ ((M.o : Nat) : Int) < _; omega
  · show (M.next.map _).length ≤ _; rw [List.length_map]; omega
  · show (M.emit.map _).length ≤ _; rw [List.length_map]; omega
  · obtain ⟨r',hr',rfl⟩ := List.mem_map.1 hr
    rw [List.length_map,hV.rl _ hr']; omega
  · obtain ⟨r',hr',rfl⟩ := List.mem_map.1 hr
    show r'.length ≤ _
    rw [hV.wl _ hr']; omega
  · obtain ⟨r',hr',rfl⟩ := List.mem_map.1 hr
    intro x hx
    have := hV.wb _ hr' x hx
    omega
theorem xBM {M : Ma} (hV : Vm M) : L.pcall 21 [M.av] = some (.int .i64 0) := by
  have := xL4 (xR9 hV)
  rwa [M.toF_av,xWA hV] at this
theorem xBN {M : Ma} (hV : Vm M) : L.pcall 22 [M.av] = some (.int .i64 0) := by
  have := xL5 (xR9 hV)
  rwa [M.toF_av,xWA hV] at this
structure Mo where
  i : Nat
  o : Nat
  s : Nat
  give : List Nat
  next : List (List Nat)
def Mo.cells (M : Mo) : List AV := [.int .i64 (M.i : Nat),.int .i64 (M.o : Nat),.int .i64 (M.s : Nat),.sl false M.give.length (bs M.give),.sl false M.next.length (M.next.map xCz)]
def Mo.av (M : Mo) : AV := .agg M.cells
structure Vo (M : Mo) : Prop where
  io : M.i + M.o ≤ 6
  n0 : 0 < M.next.length
  n9 : M.next.length ≤ 4096
  gl : M.give.length = M.next.length
  s : M.s < M.next.length
  rl : ∀ r ∈ M.next,r.length = two M.o
  rb : ∀ r ∈ M.next,∀ x ∈ r,x < M.next.length
  gb : ∀ x ∈ M.give,x < two M.i
def Mo.toF (M : Mo) : Nf := ⟨M.i,M.o,M.s,false,M.give,false,M.next.map fun r => ⟨false,r.map Int.ofNat⟩⟩
theorem Mo.toF_av (M : Mo) : M.toF.av = M.av := by
  unfold Mo.toF Nf.av Nf.cells Mo.av Mo.cells
  simp only [List.length_map,List.map_map]
  have e1 : (rwV ∘ fun r : List Nat => (⟨false,r.map Int.ofNat⟩ : Rw)) = xCz := by
    funext r
    show rwV ⟨false,r.map Int.ofNat⟩ = xCz r
    unfold rwV xCz
    simp only [List.length_map,xGc]
  rw [e1]
def Nf.fromF (m : Nf) : Mo := ⟨m.i.toNat,m.o.toNat,m.s.toNat,m.give,m.next.map fun r => r.l.map Int.toNat⟩
def nx (M : Ma) (s i : Nat) : Nat := (M.next.getD s []).getD i 0
def em (M : Ma) (s i : Nat) : Nat := (M.emit.getD s []).getD i 0
theorem Vm.nl {M : Ma} (h : Vm M) {s : Nat} (hs : s < M.next.length) : (M.next.getD s []).length = two M.i := h.rl _ (xBk hs)
theorem Vm.wl' {M : Ma} (h : Vm M) {s : Nat} (hs : s < M.next.length) : (M.emit.getD s []).length = two M.i := h.wl _ (xBk (by rw [h.el]; exact hs))
theorem Vm.nx {M : Ma} (h : Vm M) {s i : Nat} (hs : s < M.next.length) (hi : i < two M.i) : nx M s i < M.next.length := h.rb _ (xBk hs) _ (xBk (by rw [h.nl hs]; exact hi))
theorem Vm.em {M : Ma} (h : Vm M) {s i : Nat} (hs : s < M.next.length) (hi : i < two M.i) : em M s i < two M.o := h.wb _ (xBk (by rw [h.el]; exact hs)) _ (xBk (by rw [h.wl' hs]; exact hi))
def nxo (N : Mo) (t o : Nat) : Nat := (N.next.getD t []).getD o 0
def gv (N : Mo) (t : Nat) : Nat := N.give.getD t 0
theorem Vo.nl {N : Mo} (h : Vo N) {s : Nat} (hs : s < N.next.length) : (N.next.getD s []).length = two N.o := h.rl _ (xBk hs)
theorem Vo.nx {N : Mo} (h : Vo N) {s i : Nat} (hs : s < N.next.length) (hi : i < two N.o) : nxo N s i < N.next.length := h.rb _ (xBk hs) _ (xBk (by rw [h.nl hs]; exact hi))
theorem Vo.gv {N : Mo} (h : Vo N) {s : Nat} (hs : s < N.next.length) : gv N s < two N.i := h.gb _ (xBk (by rw [h.gl]; exact hs))
theorem yBb (a b : Nat) : two a * two b = two (a + b) := (Nat.pow_add 2 a b).symm
def lt2 (a i o : Nat) : Nat := i + o * two a
theorem xSa {a b i o : Nat} (h : a + b ≤ 6) (hi : i < two a) (ho : o < two b) : lt2 a i o < two (a + b) ∧ lt2 a i o < 64 ∧ o * two a < 64 := by
  have h1 : (o + 1) * two a ≤ two b * two a := Nat.mul_le_mul_right _ ho
  rw [yBb,Nat.add_mul,Nat.one_mul,Nat.add_comm b a] at h1
  have h2 := (xED h).1
  unfold lt2
  omega
theorem xPT {a b i o : Nat} (h : a + b ≤ 6) (hi : i < two a) (ho : o < two b) : IntKind.u8.wrap ((o : Int) * 2 ^ min a IntKind.u8.bits) = ((o * two a : Nat) : Int) := by
  have h3 := (xSa h hi ho).2.2
  have e : min a IntKind.u8.bits = a := by show min a 8 = a; omega
  rw [e]
  have e2 : (o : Int) * 2 ^ a = ((o * two a : Nat) : Int) := by
    unfold two
    rw [Int.natCast_mul,Int.natCast_pow]; rfl
  rw [e2]
  exact yBj (by omega)
theorem yCW {a b i o : Nat} (h : a + b ≤ 6) (hi : i < two a) (ho : o < two b) : xGT .or .u8 (i : Int) ((o * two a : Nat) : Int) = ((lt2 a i o : Nat) : Int) := by
  have h3 := xSa h hi ho
  have h4 := (xED (show a ≤ 6 by omega)).1
  rw [or8 (by omega) (by omega)]
  congr 1
  unfold lt2
  have := Nat.shiftLeft_add_eq_or_of_lt (i := a) (b := i) hi o
  rw [Nat.shiftLeft_eq] at this
  unfold two
  rw [Nat.or_comm,← this,Nat.add_comm]
def yD7 (M : Ma) (N : Mo) (c : Nat × Nat) : Nat × Nat := (nx M c.1 (gv N c.2),nxo N c.2 (em M c.1 (gv N c.2)))
def yFg (M : Ma) (N : Mo) (c : Nat × Nat) : Nat := lt2 M.i (gv N c.2) (em M c.1 (gv N c.2))
def cfg (M : Ma) (N : Mo) : Nat → Nat × Nat
  | 0 => (M.s,N.s)
  | n + 1 => yD7 M N (cfg M N n)
def yEz (M : Ma) (N : Mo) (n : Nat) : List Nat := (List.range n).map fun k => yFg M N (cfg M N k)
theorem TrI.keep {B T : Nat} {G G' : Heap} {ks : List (Nat × Nat)} {w : List Nat} (h : TrI B T G ks w) (hk : ∀ b,b = T ∨ B ≤ b → b < G.length → G'[b]? = G[b]?) : TrI B T G' ks w := by
  obtain ⟨mv,wv,h1,h2,h3⟩ := h
  refine ⟨mv,wv,by rw [hk T (.inl rfl) (xG3 h1)]; exact h1,?_,?_⟩
  · rcases h2 with h2 | ⟨q,e,hq,hm⟩
    · exact .inl h2
    · exact .inr ⟨q,e,hq,by rw [hk q (.inr hq) (xG3 hm)]; exact hm⟩
  · rcases h3 with h3 | ⟨q,e,hq,hm⟩
    · exact .inl h3
    · exact .inr ⟨q,e,hq,by rw [hk q (.inr hq) (xG3 hm)]; exact hm⟩
section
variable {M : Ma} {N : Mo} {G : Heap} {s t : Nat} {ks : List (Nat × Nat)} {w : List Nat}
end
section
variable {H : Heap} {fv : AV}
theorem yD8 {z : Bool} {l : List Nat} {P : Nat → Bool} (hl : l.length < 9223372036854775807) (hb : ∀ x ∈ l,x < 256) (hf : ∀ s,s < 256 → L.icall fv [.int .u8 (s : Nat)] H = some (.bool (P s),H)) : ∀ e i,i + e = l.length →
    ∃ j : Nat,L.loop xNu xXB ⟨xJ1 (.sl z l.length (bs l)) fv (.int .i64 0) (.int .i64 (l.length : Nat)) (.int .i64 (i : Nat)),H⟩ =
      some (if (l.drop i).any P = true then (.ret,⟨xJ1 (.sl z l.length (bs l)) fv (.int .i64 (j : Nat)) (.int .i64 (l.length : Nat)) (.int .i64 (j : Nat)),H⟩)
        else (.exit 0,⟨xJ1 (.sl z l.length (bs l)) fv (.int .i64 0) (.int .i64 (l.length : Nat)) (.int .i64 (l.length : Nat)),H⟩)) := by
  intro e
  induction e with
  | zero =>
    intro i h
    obtain rfl : i = l.length := by omega
    refine ⟨0,?_⟩
    rw [if_neg (by rw [List.drop_length]; simp),xUp]
    simp (maxSteps := 30000000) (disch := first | assumption | omega | (simp only [WL,AV.isCell] <;> omega) | rfl | decide) only [↓reduceIte,WB,xAL,xAb,xAK,xAp,xAo,AV.cells,AV.isCell,xAa,xAd,xAe,xAr,xAs,xAt,xAu,xAv,xAw,xAJ,xAx,xAy,xAj,xAz,xAk,xAl,xAA,xAm,xAn,xAi,Nat.reduceDiv,Nat.reduceMod,WP,xAG,xAC,xA2,xA0,xAZ,xAF,xAI,xAH,W2,xAf,xAg,xAh,Nat.reduceAdd,Nat.reduceSub,Nat.reduceLeDiff,Nat.reduceMul,Int.reduceAdd,Int.reduceSub,Int.reduceMul,Int.reduceLT,Int.reduceLE,Int.reduceEq,Int.reduceToNat,Int.reduceNeg,Nat.reduceEqDiff,Nat.reduceBEq,Nat.reduceLT,xBz,xB1,xB7,xCg,xCh,xCi,xBA,xB4,xAW,xAX,xCz,xCQ,List.length_map,List.set_set,xJ0,xJ2]
  | succ e ih =>
    intro i h
    have hlt : (i : Int) < (l.length : Nat) := by omega
    obtain ⟨j,ih'⟩ := ih (i + 1) (by omega)
    have hp := hf (l.getD i 0) (hb _ (xBk (by omega)))
    rw [xBb (a := (0 : Nat)) (by omega : i < l.length),List.any_cons]
    cases c : P (l.getD i 0) with
    | true =>
      rw [c] at hp
      refine ⟨i,?_⟩
      rw [Bool.true_or,if_pos rfl,xUp]
      simp (maxSteps := 30000000) (disch := first | assumption | omega | (simp only [WL,AV.isCell] <;> omega) | rfl | decide) only [↓reduceIte,WB,xAL,xAb,xAK,xAp,xAo,AV.cells,AV.isCell,xAa,xAd,xAe,xAr,xAs,xAt,xAu,xAv,xAw,xAJ,xAx,xAy,xAj,xAz,xAk,xAl,xAA,xAm,xAn,xAi,Nat.reduceDiv,Nat.reduceMod,WP,xAG,xAC,xA2,xA0,xAZ,xAF,xAI,xAH,W2,xAf,xAg,xAh,Nat.reduceAdd,Nat.reduceSub,Nat.reduceLeDiff,Nat.reduceMul,Int.reduceAdd,Int.reduceSub,Int.reduceMul,Int.reduceLT,Int.reduceLE,Int.reduceEq,Int.reduceToNat,Int.reduceNeg,Nat.reduceEqDiff,Nat.reduceBEq,Nat.reduceLT,xBz,xB1,xB7,xCg,xCh,xCi,xBA,xB4,xAW,xAX,xCz,xCQ,List.length_map,List.set_set,xJ0,xJ2,hlt,hp]
    | false =>
      rw [c] at hp
      rw [Bool.false_or]
      refine ⟨j,?_⟩
      rw [xUp]
      by_cases e : (l.drop (i + 1)).any P = true
      · rw [if_pos e] at ih' ⊢
        simp (maxSteps := 30000000) (disch := first | assumption | omega | (simp only [WL,AV.isCell] <;> omega) | rfl | decide) only [↓reduceIte,WB,xAL,xAb,xAK,xAp,xAo,AV.cells,AV.isCell,xAa,xAd,xAe,xAr,xAs,xAt,xAu,xAv,xAw,xAJ,xAx,xAy,xAj,xAz,xAk,xAl,xAA,xAm,xAn,xAi,Nat.reduceDiv,Nat.reduceMod,WP,xAG,xAC,xA2,xA0,xAZ,xAF,xAI,xAH,W2,xAf,xAg,xAh,Nat.reduceAdd,Nat.reduceSub,Nat.reduceLeDiff,Nat.reduceMul,Int.reduceAdd,Int.reduceSub,Int.reduceMul,Int.reduceLT,Int.reduceLE,Int.reduceEq,Int.reduceToNat,Int.reduceNeg,Nat.reduceEqDiff,Nat.reduceBEq,Nat.reduceLT,xBz,xB1,xB7,xCg,xCh,xCi,xBA,xB4,xAW,xAX,xCz,xCQ,List.length_map,List.set_set,xJ0,xJ2,hlt,hp,ih']
      · rw [if_neg e] at ih' ⊢
        simp (maxSteps := 30000000) (disch := first | assumption | omega | (simp only [WL,AV.isCell] <;> omega) | rfl | decide) only [↓reduceIte,WB,xAL,xAb,xAK,xAp,xAo,AV.cells,AV.isCell,xAa,xAd,xAe,xAr,xAs,xAt,xAu,xAv,xAw,xAJ,xAx,xAy,xAj,xAz,xAk,xAl,xAA,xAm,xAn,xAi,Nat.reduceDiv,Nat.reduceMod,WP,xAG,xAC,xA2,xA0,xAZ,xAF,xAI,xAH,W2,xAf,xAg,xAh,Nat.reduceAdd,Nat.reduceSub,Nat.reduceLeDiff,Nat.reduceMul,Int.reduceAdd,Int.reduceSub,Int.reduceMul,Int.reduceLT,Int.reduceLE,Int.reduceEq,Int.reduceToNat,Int.reduceNeg,Nat.reduceEqDiff,Nat.reduceBEq,Nat.reduceLT,xBz,xB1,xB7,xCg,xCh,xCi,xBA,xB4,xAW,xAX,xCz,xCQ,List.length_map,List.set_set,xJ0,xJ2,hlt,hp,ih']
theorem yBc {z : Bool} {l : List Nat} {P : Nat → Bool} (hl : l.length < 9223372036854775807) (hb : ∀ x ∈ l,x < 256) (hf : ∀ s,s < 256 → L.icall fv [.int .u8 (s : Nat)] H = some (.bool (P s),H)) :
    ∃ j : Int,L.icall (.func 85 []) [.sl z l.length (bs l),fv] H = some (.int .i64 j,H) ∧ (if l.any P = true then 0 ≤ j else j < 0) := by
  obtain ⟨j,h⟩ := yD8 (z := z) hl hb hf l.length 0 (by omega)
  simp only [Int.natCast_zero,List.drop_zero] at h
  by_cases c : l.any P = true
  · rw [if_pos c] at h
    refine ⟨j,?_,by rw [if_pos c]; omega⟩
    rw [yEn,a85]
    simp (maxSteps := 30000000) (disch := first | assumption | omega | (simp only [WL,AV.isCell] <;> omega) | rfl | decide) only [↓reduceIte,WB,xAL,xAb,xAK,xAp,xAo,AV.cells,AV.isCell,xAa,xAd,xAe,xAr,xAs,xAt,xAu,xAv,xAw,xAJ,xAx,xAy,xAj,xAz,xAk,xAl,xAA,xAm,xAn,xAi,Nat.reduceDiv,Nat.reduceMod,WP,xAG,xAC,xA2,xA0,xAZ,xAF,xAI,xAH,W2,xAf,xAg,xAh,Nat.reduceAdd,Nat.reduceSub,Nat.reduceLeDiff,Nat.reduceMul,Int.reduceAdd,Int.reduceSub,Int.reduceMul,Int.reduceLT,Int.reduceLE,Int.reduceEq,Int.reduceToNat,Int.reduceNeg,Nat.reduceEqDiff,Nat.reduceBEq,Nat.reduceLT,xBz,xB1,xB7,xCg,xCh,xCi,xBA,xB4,xAW,xAX,xCz,xCQ,List.length_map,List.set_set,xJ2,h]
  · rw [if_neg c] at h
    refine ⟨-1,?_,by rw [if_neg c]; omega⟩
    rw [yEn,a85]
    simp (maxSteps := 30000000) (disch := first | assumption | omega | (simp only [WL,AV.isCell] <;> omega) | rfl | decide) only [↓reduceIte,WB,xAL,xAb,xAK,xAp,xAo,AV.cells,AV.isCell,xAa,xAd,xAe,xAr,xAs,xAt,xAu,xAv,xAw,xAJ,xAx,xAy,xAj,xAz,xAk,xAl,xAA,xAm,xAn,xAi,Nat.reduceDiv,Nat.reduceMod,WP,xAG,xAC,xA2,xA0,xAZ,xAF,xAI,xAH,W2,xAf,xAg,xAh,Nat.reduceAdd,Nat.reduceSub,Nat.reduceLeDiff,Nat.reduceMul,Int.reduceAdd,Int.reduceSub,Int.reduceMul,Int.reduceLT,Int.reduceLE,Int.reduceEq,Int.reduceToNat,Int.reduceNeg,Nat.reduceEqDiff,Nat.reduceBEq,Nat.reduceLT,xBz,xB1,xB7,xCg,xCh,xCi,xBA,xB4,xAW,xAX,xCz,xCQ,List.length_map,List.set_set,xJ2,h]
theorem yCX {z : Bool} {l : List Nat} {P : Nat → Bool} (hl : l.length < 9223372036854775807) (hb : ∀ x ∈ l,x < 256) (hf : ∀ s,s < 256 → L.icall fv [.int .u8 (s : Nat)] H = some (.bool (P s),H)) :
    L.icall (.func 52 []) [.sl z l.length (bs l),fv] H = some (.bool (l.any P),H) := by
  obtain ⟨j,h,hj⟩ := yBc (z := z) hl hb hf
  rw [yEN,a52]
  cases c : l.any P with
  | true =>
    rw [if_pos c] at hj
    simp (maxSteps := 30000000) (disch := first | assumption | omega | (simp only [WL,AV.isCell] <;> omega) | rfl | decide) only [↓reduceIte,WB,xAL,xAb,xAK,xAp,xAo,AV.cells,AV.isCell,xAa,xAd,xAe,xAr,xAs,xAt,xAu,xAv,xAw,xAJ,xAx,xAy,xAj,xAz,xAk,xAl,xAA,xAm,xAn,xAi,Nat.reduceDiv,Nat.reduceMod,WP,xAG,xAC,xA2,xA0,xAZ,xAF,xAI,xAH,W2,xAf,xAg,xAh,Nat.reduceAdd,Nat.reduceSub,Nat.reduceLeDiff,Nat.reduceMul,Int.reduceAdd,Int.reduceSub,Int.reduceMul,Int.reduceLT,Int.reduceLE,Int.reduceEq,Int.reduceToNat,Int.reduceNeg,Nat.reduceEqDiff,Nat.reduceBEq,Nat.reduceLT,xBz,xB1,xB7,xCg,xCh,xCi,xBA,xB4,xAW,xAX,xCz,xCQ,List.length_map,List.set_set,h,hj]
  | false =>
    rw [if_neg (by simp [c])] at hj
    have hj' : ¬ 0 ≤ j := by omega
    simp (maxSteps := 30000000) (disch := first | assumption | omega | (simp only [WL,AV.isCell] <;> omega) | rfl | decide) only [↓reduceIte,WB,xAL,xAb,xAK,xAp,xAo,AV.cells,AV.isCell,xAa,xAd,xAe,xAr,xAs,xAt,xAu,xAv,xAw,xAJ,xAx,xAy,xAj,xAz,xAk,xAl,xAA,xAm,xAn,xAi,Nat.reduceDiv,Nat.reduceMod,WP,xAG,xAC,xA2,xA0,xAZ,xAF,xAI,xAH,W2,xAf,xAg,xAh,Nat.reduceAdd,Nat.reduceSub,Nat.reduceLeDiff,Nat.reduceMul,Int.reduceAdd,Int.reduceSub,Int.reduceMul,Int.reduceLT,Int.reduceLE,Int.reduceEq,Int.reduceToNat,Int.reduceNeg,Nat.reduceEqDiff,Nat.reduceBEq,Nat.reduceLT,xBz,xB1,xB7,xCg,xCh,xCi,xBA,xB4,xAW,xAX,xCz,xCQ,List.length_map,List.set_set,h,hj']
end
theorem yD9 {M : Ma} (hV : Vm M) {b x : Nat} {H : Heap} (hx : x < 256) (h : H[b]? = some (.cells false false M.cells)) : L.icall (.func 53 [.ptr b 0]) [.int .u8 (x : Nat)] H = some (.bool (decide (two M.i ≤ x)),H) := by
  have io := hV.io
  have hsi := xES (v := M.i) (by omega)
  have hi0 : ¬ ((M.i : Nat) : Int) < 0 := by omega
  unfold Ma.cells at h
  rw [yEO,a53]
  by_cases c : two M.i ≤ x
  · have c' : ((two M.i : Nat) : Int) ≤ (x : Nat) := by omega
    rw [decide_eq_true c]
    simp (maxSteps := 30000000) (disch := first | assumption | omega | (simp only [WL,AV.isCell] <;> omega) | rfl | decide) only [↓reduceIte,WB,xAL,xAb,xAK,xAp,xAo,AV.cells,AV.isCell,xAa,xAd,xAe,xAr,xAs,xAt,xAu,xAv,xAw,xAJ,xAx,xAy,xAj,xAz,xAk,xAl,xAA,xAm,xAn,xAi,Nat.reduceDiv,Nat.reduceMod,WP,xAG,xAC,xA2,xA0,xAZ,xAF,xAI,xAH,W2,xAf,xAg,xAh,Nat.reduceAdd,Nat.reduceSub,Nat.reduceLeDiff,Nat.reduceMul,Int.reduceAdd,Int.reduceSub,Int.reduceMul,Int.reduceLT,Int.reduceLE,Int.reduceEq,Int.reduceToNat,Int.reduceNeg,Nat.reduceEqDiff,Nat.reduceBEq,Nat.reduceLT,xBz,xB1,xB7,xCg,xCh,xCi,xBA,xB4,xAW,xAX,xCz,xCQ,List.length_map,List.set_set,h,hsi,hi0,c']
  · have c' : ¬ ((two M.i : Nat) : Int) ≤ (x : Nat) := by omega
    rw [decide_eq_false c]
    simp (maxSteps := 30000000) (disch := first | assumption | omega | (simp only [WL,AV.isCell] <;> omega) | rfl | decide) only [↓reduceIte,WB,xAL,xAb,xAK,xAp,xAo,AV.cells,AV.isCell,xAa,xAd,xAe,xAr,xAs,xAt,xAu,xAv,xAw,xAJ,xAx,xAy,xAj,xAz,xAk,xAl,xAA,xAm,xAn,xAi,Nat.reduceDiv,Nat.reduceMod,WP,xAG,xAC,xA2,xA0,xAZ,xAF,xAI,xAH,W2,xAf,xAg,xAh,Nat.reduceAdd,Nat.reduceSub,Nat.reduceLeDiff,Nat.reduceMul,Int.reduceAdd,Int.reduceSub,Int.reduceMul,Int.reduceLT,Int.reduceLE,Int.reduceEq,Int.reduceToNat,Int.reduceNeg,Nat.reduceEqDiff,Nat.reduceBEq,Nat.reduceLT,xBz,xB1,xB7,xCg,xCh,xCi,xBA,xB4,xAW,xAX,xCz,xCQ,List.length_map,List.set_set,h,hsi,hi0,c']
def xEV (M : Ma) : Nat → List Nat → List Nat
  | _,[] => []
  | s,x :: t => em M s x :: xEV M (nx M s x) t
def xEl (M : Ma) : Nat → List Nat → List Nat
  | _,[] => []
  | s,x :: t => nx M s x :: xEl M (nx M s x) t
theorem xCo (M : Ma) : ∀ (w : List Nat) (s : Nat),(xEV M s w).length = w.length
  | [],_ => rfl
  | x :: t,s => by rw [xEV,List.length_cons,xCo M t,List.length_cons]
theorem xCp (M : Ma) : ∀ (w : List Nat) (s : Nat),(xEl M s w).length = w.length
  | [],_ => rfl
  | x :: t,s => by rw [xEl,List.length_cons,xCp M t,List.length_cons]
def Ow (G : Heap) (B : Nat) (ov sv : AV) (o st : List Nat) : Prop := ∃ q,sv = .own false q 0 st.length 1 ∧ B ≤ q ∧ G[q]? = some (.cells false false (xBp st)) ∧
  ((ov = .sl true 0 [] ∧ o = []) ∨ ∃ p,ov = .own false p 0 o.length 1 ∧ B ≤ p ∧ p ≠ q ∧ G[p]? = some (.cells false false (bs o)))
section
variable {M : Ma} {G : Heap} {ov sv : AV} {o st w : List Nat} {zw : Bool}
abbrev F16 (ov sv : AV) (s : Nat) (zw : Bool) (w : List Nat) (i : Nat) : List AV := xQf (.ptr 0 0) ov sv (.int .i64 (s : Nat)) (.sl zw w.length (bs w)) (.int .i64 (w.length : Nat)) (.int .i64 (i : Nat))
set_option maxHeartbeats 1000000 in
theorem xWB (hV : Vm M) (h0 : G[0]? = some (.cells false false M.cells)) (hO : Ow G 1 ov sv o st) {s i : Nat} (hs : s < M.next.length) (hi : i < w.length) (hx : w.getD i 0 < two M.i) (hw : w.length < 1000000) (ho : o.length < 1000000) (hst : st.length < 1000000) :
    ∃ G' ov' sv',L.loop xHI xSM ⟨F16 ov sv s zw w i,G⟩ = L.loop xHI xSM ⟨F16 ov' sv' (nx M s (w.getD i 0)) zw w (i + 1),G'⟩ ∧ G'[0]? = some (.cells false false M.cells) ∧ Ow G' 1 ov' sv' (o ++ [em M s (w.getD i 0)]) (st ++ [nx M s (w.getD i 0)]) := by
  obtain ⟨q,rfl,hq,hqs,h3⟩ := hO
  have hGq := xG3 hqs
  have hlt : (i : Int) < (w.length : Nat) := by omega
  have l1 := hV.nl hs
  have l2 := hV.wl' hs
  have l5 := hV.el
  have g0 := h0
  unfold Ma.cells at g0
  unfold em nx
  generalize hX : w.getD i 0 = x at *
  rcases h3 with ⟨rfl,rfl⟩ | ⟨p,rfl,hp,hpq,hpo⟩
  · refine ⟨G.set q .dead ++ [.cells false false (bs [(M.emit.getD s []).getD x 0]),.cells false false (xBp (st ++ [(M.next.getD s []).getD x 0]))],.own false G.length 0 1 1,.own false (G.length + 1) 0 (st.length + 1) 1,?_,?_,?_⟩
    · rw [xMN]
      simp (maxSteps := 30000000) (disch := first | assumption | omega | (simp only [WL,AV.isCell] <;> omega) | rfl | decide) only [↓reduceIte,WB,xAL,xAb,xAK,xAp,xAo,AV.cells,AV.isCell,xAa,xAd,xAe,xAr,xAs,xAt,xAu,xAv,xAw,xAJ,xAx,xAy,xAj,xAz,xAk,xAl,xAA,xAm,xAn,xAi,Nat.reduceDiv,Nat.reduceMod,WP,xAG,xAC,xA2,xA0,xAZ,xAF,xAI,xAH,W2,xAf,xAg,xAh,Nat.reduceAdd,Nat.reduceSub,Nat.reduceLeDiff,Nat.reduceMul,Int.reduceAdd,Int.reduceSub,Int.reduceMul,Int.reduceLT,Int.reduceLE,Int.reduceEq,Int.reduceToNat,Int.reduceNeg,Nat.reduceEqDiff,Nat.reduceBEq,Nat.reduceLT,xBz,xB1,xB7,xCg,xCh,xCi,xBA,xB4,xAW,xAX,xCz,xCQ,List.length_map,List.set_set,xHH,xHJ,hlt,g0,hqs,l1,l2,l5,hX,hs,hx]
      have e : xBp st ++ [AV.int .i64 (((M.next.getD s []).getD x 0 : Nat) : Int)] = xBp (st ++ [(M.next.getD s []).getD x 0]) := by simp [xBp]
      first | rfl | (rw [e]; rfl) | rw [e]
    · rw [xBz (by simp; omega),xBA (by omega),h0]
    · exact ⟨G.length + 1,by simp,by omega,by rw [xB1 (by simp)]; rfl,.inr ⟨G.length,rfl,by omega,by omega,by rw [xB7 (by simp)]; rfl⟩⟩
  · have hGp := xG3 hpo
    refine ⟨(G.set p .dead).set q .dead ++ [.cells false false (bs (o ++ [(M.emit.getD s []).getD x 0])),.cells false false (xBp (st ++ [(M.next.getD s []).getD x 0]))],.own false G.length 0 (o.length + 1) 1,.own false (G.length + 1) 0 (st.length + 1) 1,?_,?_,?_⟩
    · rw [xMN]
      simp (maxSteps := 30000000) (disch := first | assumption | omega | (simp only [WL,AV.isCell] <;> omega) | rfl | decide) only [↓reduceIte,WB,xAL,xAb,xAK,xAp,xAo,AV.cells,AV.isCell,xAa,xAd,xAe,xAr,xAs,xAt,xAu,xAv,xAw,xAJ,xAx,xAy,xAj,xAz,xAk,xAl,xAA,xAm,xAn,xAi,Nat.reduceDiv,Nat.reduceMod,WP,xAG,xAC,xA2,xA0,xAZ,xAF,xAI,xAH,W2,xAf,xAg,xAh,Nat.reduceAdd,Nat.reduceSub,Nat.reduceLeDiff,Nat.reduceMul,Int.reduceAdd,Int.reduceSub,Int.reduceMul,Int.reduceLT,Int.reduceLE,Int.reduceEq,Int.reduceToNat,Int.reduceNeg,Nat.reduceEqDiff,Nat.reduceBEq,Nat.reduceLT,xBz,xB1,xB7,xCg,xCh,xCi,xBA,xB4,xAW,xAX,xCz,xCQ,List.length_map,List.set_set,xHH,xHJ,hlt,g0,hqs,hpo,l1,l2,l5,hX,hs,hx]
      have e : xBp st ++ [AV.int .i64 (((M.next.getD s []).getD x 0 : Nat) : Int)] = xBp (st ++ [(M.next.getD s []).getD x 0]) := by simp [xBp]
      have e2 : bs o ++ [AV.int .u8 (((M.emit.getD s []).getD x 0 : Nat) : Int)] = bs (o ++ [(M.emit.getD s []).getD x 0]) := by simp [bs]
      first | rfl | rw [e,e2] | rw [e] | rw [e2]
    · rw [xBz (by simp; omega),xBA (by omega),xBA (by omega),h0]
    · exact ⟨G.length + 1,by simp,by omega,by rw [xB1 (by simp)]; rfl,.inr ⟨G.length,by simp,by omega,by omega,by rw [xB7 (by simp)]; rfl⟩⟩
theorem yBd (hV : Vm M) (hb : ∀ x ∈ w,x < two M.i) (hw : w.length < 1000) : ∀ e i s o st ov sv G,i + e = w.length → s < M.next.length → G[0]? = some (.cells false false M.cells) → Ow G 1 ov sv o st → o.length = i → st.length = i + 1 →
    ∃ G' ov' sv' s',L.loop xHI xSM ⟨F16 ov sv s zw w i,G⟩ = some (.exit 1,⟨F16 ov' sv' s' zw w w.length,G'⟩) ∧ Ow G' 1 ov' sv' (o ++ xEV M s (w.drop i)) (st ++ xEl M s (w.drop i)) := by
  intro e
  induction e with
  | zero =>
    intro i s o st ov sv G h hs h0 hO ho hst
    obtain rfl : i = w.length := by omega
    refine ⟨G,ov,sv,s,?_,by rw [List.drop_length]; simpa [xEV,xEl] using hO⟩
    rw [xMN]
    simp (maxSteps := 30000000) (disch := first | assumption | omega | (simp only [WL,AV.isCell] <;> omega) | rfl | decide) only [↓reduceIte,WB,xAL,xAb,xAK,xAp,xAo,AV.cells,AV.isCell,xAa,xAd,xAe,xAr,xAs,xAt,xAu,xAv,xAw,xAJ,xAx,xAy,xAj,xAz,xAk,xAl,xAA,xAm,xAn,xAi,Nat.reduceDiv,Nat.reduceMod,WP,xAG,xAC,xA2,xA0,xAZ,xAF,xAI,xAH,W2,xAf,xAg,xAh,Nat.reduceAdd,Nat.reduceSub,Nat.reduceLeDiff,Nat.reduceMul,Int.reduceAdd,Int.reduceSub,Int.reduceMul,Int.reduceLT,Int.reduceLE,Int.reduceEq,Int.reduceToNat,Int.reduceNeg,Nat.reduceEqDiff,Nat.reduceBEq,Nat.reduceLT,xBz,xB1,xB7,xCg,xCh,xCi,xBA,xB4,xAW,xAX,xCz,xCQ,List.length_map,List.set_set,xHH,xHJ]
    try rfl
  | succ e ih =>
    intro i s o st ov sv G h hs h0 hO ho hst
    have hx := hb _ (xBk (a := (0 : Nat)) (show i < w.length by omega))
    obtain ⟨G1,ov1,sv1,k1,k2,k3⟩ := xWB (zw := zw) hV h0 hO hs (show i < w.length by omega) hx (by omega) (by omega) (by omega)
    rw [k1]
    obtain ⟨G',ov',sv',s',j1,j2⟩ := ih (i + 1) _ _ _ ov1 sv1 G1 (by omega) (hV.nx hs hx) k2 k3 (by simp; omega) (by simp; omega)
    refine ⟨G',ov',sv',s',j1,?_⟩
    rw [xBb (a := (0 : Nat)) (show i < w.length by omega),xEV,xEl]
    simpa using j2
end
def it {σ : Type} (f : σ → σ) (c : σ) : Nat → σ
  | 0 => c
  | n + 1 => f (it f c n)
def its {σ : Type} (f : σ → σ) (c : σ) (n : Nat) : List σ := (List.range n).map (it f c)
def lts {σ : Type} (f : σ → σ) (g : σ → Nat) (c : σ) (n : Nat) : List Nat := (List.range n).map fun k => g (it f c k)
section
variable {σ : Type} {f : σ → σ} {g : σ → Nat} {c : σ}
theorem xSb (n : Nat) : its f c (n + 1) = its f c n ++ [it f c n] := by simp [its,List.range_succ]
theorem xL6 (n : Nat) : lts f g c (n + 1) = lts f g c n ++ [g (it f c n)] := by simp [lts,List.range_succ]
theorem xIY (n : Nat) : (its f c n).length = n := by simp [its]
theorem xDL (n : Nat) : (lts f g c n).length = n := by simp [lts]
theorem yCY {n k : Nat} (d : σ) (h : k < n) : (its f c n).getD k d = it f c k := by
  simp [its,List.getD,h]
theorem xSc {n k : Nat} (h : k < n) : (lts f g c n).getD k 0 = g (it f c k) := by
  simp [lts,List.getD,h]
def yFh (f : σ → σ) (c : σ) (n : Nat) : Prop := (its f c n).Nodup ∧ it f c n ∈ its f c n
theorem xWC {n : Nat} (h : (its f c n).Nodup) (hn : it f c n ∉ its f c n) : (its f c (n + 1)).Nodup := by
  rw [xSb,List.nodup_append]
  refine ⟨h,by simp,fun a ha b hb => ?_⟩
  simp only [List.mem_singleton] at hb
  subst hb
  rintro rfl
  exact hn ha
theorem xZy (a b : Nat) : it f c (a + b) = it f (it f c a) b := by
  induction b with
  | zero => rfl
  | succ b ih => rw [Nat.add_succ,it,ih]; rfl
theorem yCZ {k d : Nat} (h : it f c (k + d) = it f c k) : ∀ t,it f c (k + d + t) = it f c (k + t) := by
  intro t
  rw [xZy (k + d) t,h,← xZy]
theorem xZz {k d : Nat} (hd : 0 < d) (h : it f c (k + d) = it f c k) (t : Nat) : it f c (k + t) = it f c (k + t % d) := by
  have key : ∀ m t,it f c (k + (t + m * d)) = it f c (k + t) := by
    intro m
    induction m with
    | zero => intro t; simp
    | succ m ih =>
      intro t
      have := yCZ h (t + m * d)
      rw [show k + (t + (m + 1) * d) = k + d + (t + m * d) by rw [Nat.add_mul]; omega,this,ih]
  have := key (t / d) (t % d)
  rw [show t % d + t / d * d = t by rw [Nat.mul_comm]; exact Nat.mod_add_div t d] at this
  exact this
variable [DecidableEq σ]
theorem yBe {n : Nat} (h : it f c n ∈ its f c n) (j : Nat) : xBh ((lts f g c n).take (pos (it f c n) (its f c n))) ((lts f g c n).drop (pos (it f c n) (its f c n))) j = g (it f c j) := by
  have hp := xO6 h
  rw [xIY] at hp
  have ha := xR6 (d := c) h
  rw [yCY c hp] at ha
  generalize pos (it f c n) (its f c n) = k at *
  have e1 : ((lts f g c n).take k).length = k := by rw [List.length_take,xDL]; omega
  have e2 : ((lts f g c n).drop k).length = n - k := by rw [List.length_drop,xDL]
  have hper : it f c (k + (n - k)) = it f c k := by rw [show k + (n - k) = n by omega,ha]
  by_cases hj : j < k
  · rw [xEv (by omega),xEk hj,xSc (by omega)]
  · rw [xCn (by omega),xCy (by omega),e1,e2,xIQ,xSc]
    · have := xZz (f := f) (c := c) (by omega) hper (j - k)
      rw [← this,show k + (j - k) = j by omega]
    · have := Nat.mod_lt (j - k) (show 0 < n - k by omega)
      omega
end
theorem yEa {v b x : Nat} {H : Heap} (hv : v ≤ 6) (hx : x < 256) (h : H[b]? = some (.cells false false [.int .i64 (v : Nat)])) : L.icall (.func 80 [.ptr b 0]) [.int .u8 (x : Nat)] H = some (.bool (decide (two v ≤ x)),H) := by
  have hsi := xES hv
  have hi0 : ¬ ((v : Nat) : Int) < 0 := by omega
  rw [yE2,a80]
  by_cases c : two v ≤ x
  · have c' : ((two v : Nat) : Int) ≤ (x : Nat) := by omega
    rw [decide_eq_true c]
    simp (maxSteps := 30000000) (disch := first | assumption | omega | (simp only [WL,AV.isCell] <;> omega) | rfl | decide) only [↓reduceIte,WB,xAL,xAb,xAK,xAp,xAo,AV.cells,AV.isCell,xAa,xAd,xAe,xAr,xAs,xAt,xAu,xAv,xAw,xAJ,xAx,xAy,xAj,xAz,xAk,xAl,xAA,xAm,xAn,xAi,Nat.reduceDiv,Nat.reduceMod,WP,xAG,xAC,xA2,xA0,xAZ,xAF,xAI,xAH,W2,xAf,xAg,xAh,Nat.reduceAdd,Nat.reduceSub,Nat.reduceLeDiff,Nat.reduceMul,Int.reduceAdd,Int.reduceSub,Int.reduceMul,Int.reduceLT,Int.reduceLE,Int.reduceEq,Int.reduceToNat,Int.reduceNeg,Nat.reduceEqDiff,Nat.reduceBEq,Nat.reduceLT,xBz,xB1,xB7,xCg,xCh,xCi,xBA,xB4,xAW,xAX,xCz,xCQ,List.length_map,List.set_set,h,hsi,hi0,c']
  · have c' : ¬ ((two v : Nat) : Int) ≤ (x : Nat) := by omega
    rw [decide_eq_false c]
    simp (maxSteps := 30000000) (disch := first | assumption | omega | (simp only [WL,AV.isCell] <;> omega) | rfl | decide) only [↓reduceIte,WB,xAL,xAb,xAK,xAp,xAo,AV.cells,AV.isCell,xAa,xAd,xAe,xAr,xAs,xAt,xAu,xAv,xAw,xAJ,xAx,xAy,xAj,xAz,xAk,xAl,xAA,xAm,xAn,xAi,Nat.reduceDiv,Nat.reduceMod,WP,xAG,xAC,xA2,xA0,xAZ,xAF,xAI,xAH,W2,xAf,xAg,xAh,Nat.reduceAdd,Nat.reduceSub,Nat.reduceLeDiff,Nat.reduceMul,Int.reduceAdd,Int.reduceSub,Int.reduceMul,Int.reduceLT,Int.reduceLE,Int.reduceEq,Int.reduceToNat,Int.reduceNeg,Nat.reduceEqDiff,Nat.reduceBEq,Nat.reduceLT,xBz,xB1,xB7,xCg,xCh,xCi,xBA,xB4,xAW,xAX,xCz,xCQ,List.length_map,List.set_set,h,hsi,hi0,c']
theorem yC0 {v b : Nat} {z : Bool} {l : List Nat} {H : Heap} (hv : v ≤ 6) (hl : l.length < 1099511627776) (hb : ∀ x ∈ l,x < 256) (h : H[b]? = some (.cells false false [.int .i64 (v : Nat)])) : L.icall (.func 52 []) [.sl z l.length (bs l),.func 80 [.ptr b 0]] H = some (.bool (xET (two v) l),H) :=
  yCX (P := fun x => decide (two v ≤ x)) (by omega) hb (fun s hs => yEa hv hs h)
def xLg (v : Nat) (p q : List Nat) : Int := if q = [] then 3 else if 64 < p.length ∨ 64 < q.length then 4 else if xET (two v) p = true ∨ xET (two v) q = true then 1 else 0
theorem xWD {v : Nat} {z1 z2 : Bool} {p q : List Nat} (hv : v ≤ 6) (hp : p.length < 1099511627776) (hq : q.length < 1099511627776) (bp : ∀ x ∈ p,x < 256) (bq : ∀ x ∈ q,x < 256) : L.pcall 45 [las z1 z2 p q,.int .i64 (v : Nat)] = some (.int .i64 (xLg v p q)) := by
  have h1 := yC0 (z := z1) (l := p) (b := 1) (H := [.cells false false [xBf z1 p,xBf z2 q],.cells false false [.int .i64 (v : Nat)]]) hv hp bp rfl
  have h2 := yC0 (z := z2) (l := q) (b := 1) (H := [.cells false false [xBf z1 p,xBf z2 q],.cells false false [.int .i64 (v : Nat)]]) hv hq bq rfl
  have c0 : ¬ ((v : Nat) : Int) < 0 := by omega
  have c00 : ¬ (6 : Int) < ((v : Nat) : Int) := by omega
  unfold xLg
  rw [yEH,a45,xAB]
  by_cases c1 : q = []
  · subst c1
    rw [if_pos rfl]
    simp (maxSteps := 30000000) (disch := first | assumption | omega | (simp only [WL,AV.isCell] <;> omega) | rfl | decide) only [↓reduceIte,WB,xAL,xAb,xAK,xAp,xAo,AV.cells,AV.isCell,xAa,xAd,xAe,xAr,xAs,xAt,xAu,xAv,xAw,xAJ,xAx,xAy,xAj,xAz,xAk,xAl,xAA,xAm,xAn,xAi,Nat.reduceDiv,Nat.reduceMod,WP,xAG,xAC,xA2,xA0,xAZ,xAF,xAI,xAH,W2,xAf,xAg,xAh,Nat.reduceAdd,Nat.reduceSub,Nat.reduceLeDiff,Nat.reduceMul,Int.reduceAdd,Int.reduceSub,Int.reduceMul,Int.reduceLT,Int.reduceLE,Int.reduceEq,Int.reduceToNat,Int.reduceNeg,Nat.reduceEqDiff,Nat.reduceBEq,Nat.reduceLT,xBz,xB1,xB7,xCg,xCh,xCi,xBA,xB4,xAW,xAX,xCz,xCQ,List.length_map,List.set_set,c0,c00]
  have c1' : ¬ ((q.length : Nat) : Int) = 0 := by
    have : 0 < q.length := List.length_pos_iff.2 c1
    omega
  rw [if_neg c1]
  by_cases c2 : 64 < p.length
  · have c2' : (64 : Int) < ((p.length : Nat) : Int) := by omega
    rw [if_pos (.inl c2)]
    simp (maxSteps := 30000000) (disch := first | assumption | omega | (simp only [WL,AV.isCell] <;> omega) | rfl | decide) only [↓reduceIte,WB,xAL,xAb,xAK,xAp,xAo,AV.cells,AV.isCell,xAa,xAd,xAe,xAr,xAs,xAt,xAu,xAv,xAw,xAJ,xAx,xAy,xAj,xAz,xAk,xAl,xAA,xAm,xAn,xAi,Nat.reduceDiv,Nat.reduceMod,WP,xAG,xAC,xA2,xA0,xAZ,xAF,xAI,xAH,W2,xAf,xAg,xAh,Nat.reduceAdd,Nat.reduceSub,Nat.reduceLeDiff,Nat.reduceMul,Int.reduceAdd,Int.reduceSub,Int.reduceMul,Int.reduceLT,Int.reduceLE,Int.reduceEq,Int.reduceToNat,Int.reduceNeg,Nat.reduceEqDiff,Nat.reduceBEq,Nat.reduceLT,xBz,xB1,xB7,xCg,xCh,xCi,xBA,xB4,xAW,xAX,xCz,xCQ,List.length_map,List.set_set,c0,c00,c1',c2']
  have c2' : ¬ (64 : Int) < ((p.length : Nat) : Int) := by omega
  by_cases c3 : 64 < q.length
  · have c3' : (64 : Int) < ((q.length : Nat) : Int) := by omega
    rw [if_pos (.inr c3)]
    simp (maxSteps := 30000000) (disch := first | assumption | omega | (simp only [WL,AV.isCell] <;> omega) | rfl | decide) only [↓reduceIte,WB,xAL,xAb,xAK,xAp,xAo,AV.cells,AV.isCell,xAa,xAd,xAe,xAr,xAs,xAt,xAu,xAv,xAw,xAJ,xAx,xAy,xAj,xAz,xAk,xAl,xAA,xAm,xAn,xAi,Nat.reduceDiv,Nat.reduceMod,WP,xAG,xAC,xA2,xA0,xAZ,xAF,xAI,xAH,W2,xAf,xAg,xAh,Nat.reduceAdd,Nat.reduceSub,Nat.reduceLeDiff,Nat.reduceMul,Int.reduceAdd,Int.reduceSub,Int.reduceMul,Int.reduceLT,Int.reduceLE,Int.reduceEq,Int.reduceToNat,Int.reduceNeg,Nat.reduceEqDiff,Nat.reduceBEq,Nat.reduceLT,xBz,xB1,xB7,xCg,xCh,xCi,xBA,xB4,xAW,xAX,xCz,xCQ,List.length_map,List.set_set,c0,c00,c1',c2',c3']
  have c3' : ¬ (64 : Int) < ((q.length : Nat) : Int) := by omega
  rw [if_neg (by omega)]
  cases d1 : xET (two v) p with
  | true =>
    rw [d1] at h1
    rw [if_pos (.inl rfl)]
    simp (maxSteps := 30000000) (disch := first | assumption | omega | (simp only [WL,AV.isCell] <;> omega) | rfl | decide) only [↓reduceIte,WB,xAL,xAb,xAK,xAp,xAo,AV.cells,AV.isCell,xAa,xAd,xAe,xAr,xAs,xAt,xAu,xAv,xAw,xAJ,xAx,xAy,xAj,xAz,xAk,xAl,xAA,xAm,xAn,xAi,Nat.reduceDiv,Nat.reduceMod,WP,xAG,xAC,xA2,xA0,xAZ,xAF,xAI,xAH,W2,xAf,xAg,xAh,Nat.reduceAdd,Nat.reduceSub,Nat.reduceLeDiff,Nat.reduceMul,Int.reduceAdd,Int.reduceSub,Int.reduceMul,Int.reduceLT,Int.reduceLE,Int.reduceEq,Int.reduceToNat,Int.reduceNeg,Nat.reduceEqDiff,Nat.reduceBEq,Nat.reduceLT,xBz,xB1,xB7,xCg,xCh,xCi,xBA,xB4,xAW,xAX,xCz,xCQ,List.length_map,List.set_set,c0,c00,c1',c2',c3',h1]
  | false =>
    rw [d1] at h1
    cases d2 : xET (two v) q with
    | true =>
      rw [d2] at h2
      rw [if_pos (.inr rfl)]
      simp (maxSteps := 30000000) (disch := first | assumption | omega | (simp only [WL,AV.isCell] <;> omega) | rfl | decide) only [↓reduceIte,WB,xAL,xAb,xAK,xAp,xAo,AV.cells,AV.isCell,xAa,xAd,xAe,xAr,xAs,xAt,xAu,xAv,xAw,xAJ,xAx,xAy,xAj,xAz,xAk,xAl,xAA,xAm,xAn,xAi,Nat.reduceDiv,Nat.reduceMod,WP,xAG,xAC,xA2,xA0,xAZ,xAF,xAI,xAH,W2,xAf,xAg,xAh,Nat.reduceAdd,Nat.reduceSub,Nat.reduceLeDiff,Nat.reduceMul,Int.reduceAdd,Int.reduceSub,Int.reduceMul,Int.reduceLT,Int.reduceLE,Int.reduceEq,Int.reduceToNat,Int.reduceNeg,Nat.reduceEqDiff,Nat.reduceBEq,Nat.reduceLT,xBz,xB1,xB7,xCg,xCh,xCi,xBA,xB4,xAW,xAX,xCz,xCQ,List.length_map,List.set_set,c0,c00,c1',c2',c3',h1,h2]
    | false =>
      rw [d2] at h2
      rw [if_neg (by simp)]
      simp (maxSteps := 30000000) (disch := first | assumption | omega | (simp only [WL,AV.isCell] <;> omega) | rfl | decide) only [↓reduceIte,WB,xAL,xAb,xAK,xAp,xAo,AV.cells,AV.isCell,xAa,xAd,xAe,xAr,xAs,xAt,xAu,xAv,xAw,xAJ,xAx,xAy,xAj,xAz,xAk,xAl,xAA,xAm,xAn,xAi,Nat.reduceDiv,Nat.reduceMod,WP,xAG,xAC,xA2,xA0,xAZ,xAF,xAI,xAH,W2,xAf,xAg,xAh,Nat.reduceAdd,Nat.reduceSub,Nat.reduceLeDiff,Nat.reduceMul,Int.reduceAdd,Int.reduceSub,Int.reduceMul,Int.reduceLT,Int.reduceLE,Int.reduceEq,Int.reduceToNat,Int.reduceNeg,Nat.reduceEqDiff,Nat.reduceBEq,Nat.reduceLT,xBz,xB1,xB7,xCg,xCh,xCi,xBA,xB4,xAW,xAX,xCz,xCQ,List.length_map,List.set_set,c0,c00,c1',c2',c3',h1,h2]
def xFG (p q : List Nat) (i : Nat) : Nat := if i < p.length then i else p.length + (i - p.length) % q.length
def ltr (p q : List Nat) (t : Nat) : Nat := (p ++ q).getD t 0
theorem xL7 {p q : List Nat} (hq : 0 < q.length) (i : Nat) : xFG p q i < p.length + q.length := by
  unfold xFG
  split
  · omega
  · have := Nat.mod_lt (i - p.length) hq
    omega
theorem xPU {p q : List Nat} (hq : 0 < q.length) (i : Nat) : ltr p q (xFG p q i) = xBh p q i := by
  unfold ltr xFG
  by_cases c : i < p.length
  · rw [if_pos c,xDR c,xEv c]
  · rw [if_neg c,xDv (by omega),xCn (by omega),xCy hq]
    congr 1; omega
theorem xLh {p q : List Nat} (hq : 0 < q.length) (i : Nat) : xC7 p.length q.length (i : Nat) = (xFG p q i : Nat) := by
  unfold xC7 xFG
  by_cases c : i < p.length
  · rw [if_pos (by omega),if_pos c]; omega
  · rw [if_neg (by omega),if_neg c]
    have e : max q.length 1 = q.length := by omega
    rw [e,show ((i : Nat) : Int) - ((p.length : Nat) : Int) = ((i - p.length : Nat) : Int) by omega]
    omega
theorem xWE {p q : List Nat} (hq : 0 < q.length) (i : Nat) : xFG p q (i + 1) = if xFG p q i + 1 < p.length + q.length then xFG p q i + 1 else p.length := by
  unfold xFG
  by_cases c : i < p.length
  · rw [if_pos c]
    by_cases c2 : i + 1 < p.length
    · rw [if_pos c2,if_pos (by omega)]
    · rw [if_neg c2]
      have : i + 1 - p.length = 0 := by omega
      rw [this,Nat.zero_mod]
      by_cases c3 : i + 1 < p.length + q.length
      · rw [if_pos c3]; omega
      · omega
  · rw [if_neg c,if_neg (by omega)]
    rw [show i + 1 - p.length = (i - p.length) + 1 by omega]
    have hm := Nat.mod_lt (i - p.length) hq
    by_cases c3 : (i - p.length) % q.length + 1 < q.length
    · rw [if_pos (by omega)]
      have : (i - p.length + 1) % q.length = (i - p.length) % q.length + 1 := by
        rw [Nat.add_mod]
        rw [Nat.mod_eq_of_lt (show 1 < q.length by omega),Nat.mod_eq_of_lt c3]
      omega
    · rw [if_neg (by omega)]
      have e : (i - p.length) % q.length + 1 = q.length := by omega
      have : (i - p.length + 1) % q.length = 0 := by
        have h1 := Nat.div_add_mod (i - p.length) q.length
        have : i - p.length + 1 = q.length * ((i - p.length) / q.length + 1) := by rw [Nat.mul_add]; omega
        rw [this]; exact Nat.mul_mod_right ..
      omega
def xBD (M : Ma) (p q : List Nat) (c : Nat × Nat) : Nat × Nat := (nx M c.1 (ltr p q c.2),if c.2 + 1 < p.length + q.length then c.2 + 1 else p.length)
def xPV (M : Ma) (p q : List Nat) (c : Nat × Nat) : Nat := lt2 M.i (ltr p q c.2) (em M c.1 (ltr p q c.2))
structure Lo (v : Nat) (p q : List Nat) : Prop where
  q0 : 0 < q.length
  p4 : p.length ≤ 64
  q4 : q.length ≤ 64
  pb : ∀ x ∈ p,x < two v
  qb : ∀ x ∈ q,x < two v
theorem lasE_zero {v : Nat} {p q : List Nat} : xLg v p q = 0 ↔ Lo v p q := by
  unfold xLg
  by_cases c1 : q = []
  · rw [if_pos c1]
    exact ⟨fun h => by omega,fun h => by have := h.q0; subst c1; simp at this⟩
  rw [if_neg c1]
  by_cases c2 : 64 < p.length ∨ 64 < q.length
  · rw [if_pos c2]
    exact ⟨fun h => by omega,fun h => by have := h.p4; have := h.q4; omega⟩
  rw [if_neg c2]
  by_cases c3 : xET (two v) p = true ∨ xET (two v) q = true
  · rw [if_pos c3]
    refine ⟨fun h => by omega,fun h => ?_⟩
    rcases c3 with c3 | c3
    · rw [bigW_iff.2 h.pb] at c3; cases c3
    · rw [bigW_iff.2 h.qb] at c3; cases c3
  · rw [if_neg c3]
    simp only [not_or,Bool.not_eq_true] at c3
    exact ⟨fun _ => ⟨List.length_pos_iff.2 c1,by omega,by omega,bigW_iff.1 c3.1,bigW_iff.1 c3.2⟩,fun _ => rfl⟩
theorem Lo.ltr {v : Nat} {p q : List Nat} (h : Lo v p q) {t : Nat} (ht : t < p.length + q.length) : ltr p q t < two v := by
  unfold Mealy.ltr
  have := xBk (a := (0 : Nat)) (show t < (p ++ q).length by rw [List.length_append]; exact ht)
  rcases List.mem_append.1 this with h' | h'
  · exact h.pb _ h'
  · exact h.qb _ h'
theorem xGe {M : Ma} {p q : List Nat} (hV : Vm M) (hL : Lo M.i p q) : ∀ k,(it (xBD M p q) (M.s,0) k).1 < M.next.length ∧ (it (xBD M p q) (M.s,0) k).2 = xFG p q k
  | 0 => ⟨hV.s,by
    have := hL.q0
    unfold it xFG
    split
    · rfl
    · have : p.length = 0 := by omega
      simp [this]⟩
  | k + 1 => by
    have ih := xGe hV hL k
    have hi := xL7 (p := p) hL.q0 k
    refine ⟨hV.nx ih.1 (by rw [ih.2]; exact hL.ltr hi),?_⟩
    rw [xWE hL.q0,← ih.2]
    rfl
theorem xL8 {M : Ma} {p q : List Nat} (hV : Vm M) (hL : Lo M.i p q) (n : Nat) : ∀ x ∈ its (xBD M p q) (M.s,0) n,x.1 < M.next.length ∧ x.2 < p.length + q.length := by
  intro x hx
  obtain ⟨k,_,rfl⟩ := List.mem_map.1 hx
  have := xGe hV hL k
  exact ⟨this.1,by rw [this.2]; exact xL7 hL.q0 k⟩
structure Inv18 (M : Ma) (z1 z2 : Bool) (p q : List Nat) (G : Heap) (ks : List (Nat × Nat)) (w : List Nat) : Prop where
  g0 : G[0]? = some (.cells false false M.cells)
  g1 : G[1]? = some (.cells false false [xBf z1 p,xBf z2 q])
  g2 : G[2]? = some (.cells false false [.sl true 0 [],.sl true 0 []])
  tr : TrI 4 3 G ks w
  len : 4 ≤ G.length
section
variable {M : Ma} {z1 z2 : Bool} {p q : List Nat} {G : Heap} {s n : Nat} {ks : List (Nat × Nat)} {w : List Nat}
abbrev F18 (s i : Nat) : List AV := xQh (.ptr 0 0) (.ptr 1 0) (.ptr 2 0) (.int .i64 0) (.int .i64 (s : Nat)) (.ptr 3 0) (.int .i64 (i : Nat))
set_option maxHeartbeats 1000000 in
theorem xWF (hV : Vm M) (hL : Lo M.i p q) (h : Inv18 M z1 z2 p q G ks w) (hs : s < M.next.length) (hk : (s,xFG p q n) ∉ ks) (hl : w.length = ks.length) (hw : w.length < 1099511627) (hn : n < 1099511627) :
    ∃ G',L.loop xGt xPB ⟨F18 s n,G⟩ = L.loop xGt xPB ⟨F18 (xBD M p q (s,xFG p q n)).1 (n + 1),G'⟩ ∧ Inv18 M z1 z2 p q G' (ks ++ [(s,xFG p q n)]) (w ++ [xPV M p q (s,xFG p q n)]) := by
  obtain ⟨G1,k1,k2,k3⟩ := xYj (T := 3) (B := 4) (by omega) h.len h.tr hk hl (by omega)
  have h0 := h.g0
  have h1 := h.g1
  have g0 := (k3.2 0 (by omega) (by omega)).trans h.g0
  have g1 := (k3.2 1 (by omega) (by omega)).trans h.g1
  have g2 := (k3.2 2 (by omega) (by omega)).trans h.g2
  have hlen : 4 ≤ G1.length := by have := h.len; have := k3.1; omega
  obtain ⟨mv,wv,t1,t2,t3⟩ := k2
  have p4 := hL.p4
  have q4 := hL.q4
  have hix := xLU z1 z2 p q (n : Nat) (by omega) (by omega) (by omega) (by omega)
  rw [xLh hL.q0] at hix
  have hat := yD3 z1 z2 p q (n : Nat) (by omega) (by omega) (by omega) (by omega)
  rw [xLW,← xPU hL.q0] at hat
  have hi := hL.ltr (xL7 (p := p) hL.q0 n)
  have ho := hV.em hs hi
  have hio := hV.io
  have l1 := hV.nl hs
  have l2 := hV.wl' hs
  have l5 := hV.el
  have hsh := xPT hio hi ho
  have hor := yCW hio hi ho
  have hnx : (xBD M p q (s,xFG p q n)).1 = nx M s (ltr p q (xFG p q n)) := rfl
  have hlc : xPV M p q (s,xFG p q n) = lt2 M.i (ltr p q (xFG p q n)) (em M s (ltr p q (xFG p q n))) := rfl
  rw [hnx,hlc]
  unfold em at ho hsh hor ⊢
  unfold nx
  generalize xFG p q n = t at *
  generalize ltr p q t = x at *
  generalize hOo : (M.emit.getD s []).getD x 0 = o at *
  have g0' := g0
  unfold Ma.cells at g0'
  simp only [las] at hix hat
  simp only [kv2] at k1
  have hi0 : ¬ ((M.i : Nat) : Int) < 0 := by omega
  rcases t3 with ⟨rfl,rfl⟩ | ⟨b,rfl,hb,hbw⟩
  · refine ⟨G1.set 3 (.cells false false [mv,.own false (G1.length + 1) 0 1 1]) ++ [.cells false false [.sl true 0 [],.sl true 0 []],.cells false false (bs [lt2 M.i x o])],?_,⟨?_,?_,?_,?_,?_⟩⟩
    · rw [xT2]
      simp (maxSteps := 30000000) (disch := first | assumption | omega | (simp only [WL,AV.isCell] <;> omega) | rfl | decide) only [↓reduceIte,WB,xAL,xAb,xAK,xAp,xAo,AV.cells,AV.isCell,xAa,xAd,xAe,xAr,xAs,xAt,xAu,xAv,xAw,xAJ,xAx,xAy,xAj,xAz,xAk,xAl,xAA,xAm,xAn,xAi,Nat.reduceDiv,Nat.reduceMod,WP,xAG,xAC,xA2,xA0,xAZ,xAF,xAI,xAH,W2,xAf,xAg,xAh,Nat.reduceAdd,Nat.reduceSub,Nat.reduceLeDiff,Nat.reduceMul,Int.reduceAdd,Int.reduceSub,Int.reduceMul,Int.reduceLT,Int.reduceLE,Int.reduceEq,Int.reduceToNat,Int.reduceNeg,Nat.reduceEqDiff,Nat.reduceBEq,Nat.reduceLT,xBz,xB1,xB7,xCg,xCh,xCi,xBA,xB4,xAW,xAX,xCz,xCQ,List.length_map,List.set_set,xMR,xMS,h1,hix,hat,k1,g0',g1,g2,t1,l1,l2,l5,hOo,hi,ho,hs,hsh,hor,hi0]
      rfl
    · rw [xBz (by simp; omega),xBA (by omega),g0]
    · rw [xBz (by simp; omega),xBA (by omega),g1]
    · rw [xBz (by simp; omega),xBA (by omega),g2]
    · refine ⟨mv,.own false (G1.length + 1) 0 1 1,?_,?_,.inr ⟨G1.length + 1,rfl,by omega,?_⟩⟩
      · rw [xBz (by simp; omega),xB4 (by omega)]
      · rcases t2 with t2 | ⟨q,e,hq,hm⟩
        · exact .inl t2
        · have := xG3 hm
          exact .inr ⟨q,e,hq,by rw [xBz (by simp; omega),xBA (by omega)]; exact hm⟩
      · rw [xB1 (by simp)]; rfl
    · simp; omega
  · have hGp := xG3 hbw
    refine ⟨(G1.set b .dead).set 3 (.cells false false [mv,.own false (G1.length + 1) 0 (w.length + 1) 1]) ++ [.cells false false [.sl true 0 [],.sl true 0 []],.cells false false (bs (w ++ [lt2 M.i x o]))],?_,⟨?_,?_,?_,?_,?_⟩⟩
    · have hb3 : b ≠ 3 := by omega
      rw [xT2]
      simp (maxSteps := 30000000) (disch := first | assumption | omega | (simp only [WL,AV.isCell] <;> omega) | rfl | decide) only [↓reduceIte,WB,xAL,xAb,xAK,xAp,xAo,AV.cells,AV.isCell,xAa,xAd,xAe,xAr,xAs,xAt,xAu,xAv,xAw,xAJ,xAx,xAy,xAj,xAz,xAk,xAl,xAA,xAm,xAn,xAi,Nat.reduceDiv,Nat.reduceMod,WP,xAG,xAC,xA2,xA0,xAZ,xAF,xAI,xAH,W2,xAf,xAg,xAh,Nat.reduceAdd,Nat.reduceSub,Nat.reduceLeDiff,Nat.reduceMul,Int.reduceAdd,Int.reduceSub,Int.reduceMul,Int.reduceLT,Int.reduceLE,Int.reduceEq,Int.reduceToNat,Int.reduceNeg,Nat.reduceEqDiff,Nat.reduceBEq,Nat.reduceLT,xBz,xB1,xB7,xCg,xCh,xCi,xBA,xB4,xAW,xAX,xCz,xCQ,List.length_map,List.set_set,xMR,xMS,h1,hix,hat,k1,g0',g1,g2,t1,hbw,l1,l2,l5,hOo,hi,ho,hs,hsh,hor,hi0]
      rw [xUv]; rfl
    · rw [xBz (by simp; omega),xBA (by omega),xBA (by omega),g0]
    · rw [xBz (by simp; omega),xBA (by omega),xBA (by omega),g1]
    · rw [xBz (by simp; omega),xBA (by omega),xBA (by omega),g2]
    · refine ⟨mv,.own false (G1.length + 1) 0 (w.length + 1) 1,?_,?_,.inr ⟨G1.length + 1,by simp,by omega,?_⟩⟩
      · rw [xBz (by simp; omega),xB4 (by simp; omega)]
      · rcases t2 with t2 | ⟨q,e,hq,hm⟩
        · exact .inl t2
        · have := xG3 hm
          exact .inr ⟨q,e,hq,by rw [xBz (by simp; omega),xBA (by omega),xBA (by rintro rfl; rw [hbw] at hm; cases hm)]; exact hm⟩
      · rw [xB1 (by simp)]; rfl
    · simp; omega
theorem yBf (hV : Vm M) (hL : Lo M.i p q) (h : Inv18 M z1 z2 p q G ks w) (hk : (s,xFG p q n) ∈ ks) (hl : w.length = ks.length) (hw : w.length < 1099511627) (hn : n < 1099511627) :
    ∃ G' p' q' a b,L.loop xGt xPB ⟨F18 s n,G⟩ = some (.ret,⟨F18 s n,G'⟩) ∧ G'[2]? = some (.cells false false [.own false a 0 p'.length 1,.own false b 0 q'.length 1]) ∧ a ≠ b ∧ 2 < a ∧ 2 < b ∧
      G'[a]? = some (.cells false false (bs p')) ∧ G'[b]? = some (.cells false false (bs q')) ∧ Canon (xBh (w.take (pos (s,xFG p q n) ks)) (w.drop (pos (s,xFG p q n) ks))) p' q' ∧ p'.length ≤ w.length ∧ q'.length ≤ w.length := by
  obtain ⟨G1,a,b,p',q',k1,k2,k3,k4,k5,k6,k7,k8,k9,k10⟩ := xYk (T := 3) (B := 4) (by omega) h.len h.tr hk hl (by omega)
  have g2 := (k10.2 2 (by omega) (by omega)).trans h.g2
  have hlen : 4 ≤ G1.length := by have := h.len; have := k10.1; omega
  have h1 := h.g1
  have ha := xG3 k6
  have hb := xG3 k7
  have p4 := hL.p4
  have q4 := hL.q4
  have hix := xLU z1 z2 p q (n : Nat) (by omega) (by omega) (by omega) (by omega)
  rw [xLh hL.q0] at hix
  generalize xFG p q n = t at *
  simp only [las] at hix
  simp only [kv2] at k1
  refine ⟨G1.set 2 (.cells false false [.own false a 0 p'.length 1,.own false b 0 q'.length 1]) ++ [.cells false false [.own false a 0 p'.length 1,.own false b 0 q'.length 1]],p',q',a,b,?_,?_,k5,by omega,by omega,?_,?_,k2,k8,k9⟩
  · rw [xT2]
    simp (maxSteps := 30000000) (disch := first | assumption | omega | (simp only [WL,AV.isCell] <;> omega) | rfl | decide) only [↓reduceIte,WB,xAL,xAb,xAK,xAp,xAo,AV.cells,AV.isCell,xAa,xAd,xAe,xAr,xAs,xAt,xAu,xAv,xAw,xAJ,xAx,xAy,xAj,xAz,xAk,xAl,xAA,xAm,xAn,xAi,Nat.reduceDiv,Nat.reduceMod,WP,xAG,xAC,xA2,xA0,xAZ,xAF,xAI,xAH,W2,xAf,xAg,xAh,Nat.reduceAdd,Nat.reduceSub,Nat.reduceLeDiff,Nat.reduceMul,Int.reduceAdd,Int.reduceSub,Int.reduceMul,Int.reduceLT,Int.reduceLE,Int.reduceEq,Int.reduceToNat,Int.reduceNeg,Nat.reduceEqDiff,Nat.reduceBEq,Nat.reduceLT,xBz,xB1,xB7,xCg,xCh,xCi,xBA,xB4,xAW,xAX,xCz,xCQ,List.length_map,List.set_set,xMR,xMS,h1,hix,k1,g2]
    try rfl
  · rw [xBz (by simp; omega),xB4 (by omega)]
  · rw [xBz (by simp; omega),xBA (by omega),k6]
  · rw [xBz (by simp; omega),xBA (by omega),k7]
end
section
variable {M : Ma} {z1 z2 : Bool} {p q : List Nat}
theorem yBg (hV : Vm M) (hL : Lo M.i p q) : ∀ e n G,n + e = M.next.length * (p.length + q.length) + 1 → (its (xBD M p q) (M.s,0) n).Nodup → Inv18 M z1 z2 p q G (its (xBD M p q) (M.s,0) n) (lts (xBD M p q) (xPV M p q) (M.s,0) n) →
    ∃ n0 F' G' p' q' a b,yFh (xBD M p q) (M.s,0) n0 ∧ L.loop xGt xPB ⟨F18 (it (xBD M p q) (M.s,0) n).1 n,G⟩ = some (.ret,⟨F',G'⟩) ∧ F'.getD 4 .any = .ptr 2 0 ∧ F'.getD 5 .any = .int .i64 0 ∧ G'[2]? = some (.cells false false [.own false a 0 p'.length 1,.own false b 0 q'.length 1]) ∧ a ≠ b ∧ 2 < a ∧ 2 < b ∧
      G'[a]? = some (.cells false false (bs p')) ∧ G'[b]? = some (.cells false false (bs q')) ∧ Canon (fun j => xPV M p q (it (xBD M p q) (M.s,0) j)) p' q' ∧ p'.length ≤ n0 ∧ q'.length ≤ n0 := by
  intro e
  induction e with
  | zero =>
    intro n G h hd hI
    have := xIX hd (xL8 hV hL n)
    rw [xIY] at this
    omega
  | succ e ih =>
    intro n G h hd hI
    have hc := xGe hV hL n
    have hle := xIX hd (xL8 hV hL n)
    rw [xIY] at hle
    have p4 := hL.p4
    have q4 := hL.q4
    have hm := Nat.mul_le_mul hV.n9 (show p.length + q.length ≤ 128 by omega)
    have hll : (lts (xBD M p q) (xPV M p q) (M.s,0) n).length = (its (xBD M p q) (M.s,0) n).length := by rw [xDL,xIY]
    have hcc : it (xBD M p q) (M.s,0) n = ((it (xBD M p q) (M.s,0) n).1,xFG p q n) := by rw [← hc.2]
    by_cases hk : it (xBD M p q) (M.s,0) n ∈ its (xBD M p q) (M.s,0) n
    · have hk' := hk
      rw [hcc] at hk'
      obtain ⟨G',p',q',a,b,k1,k2,k3,k4,k5,k6,k7,k8,k9,k10⟩ := yBf (s := (it (xBD M p q) (M.s,0) n).1) (n := n) hV hL hI hk' hll (by rw [xDL]; omega) (by omega)
      rw [← hcc] at k8
      rw [xDL] at k9 k10
      have hS : xBh ((lts (xBD M p q) (xPV M p q) (M.s,0) n).take (pos (it (xBD M p q) (M.s,0) n) (its (xBD M p q) (M.s,0) n))) ((lts (xBD M p q) (xPV M p q) (M.s,0) n).drop (pos (it (xBD M p q) (M.s,0) n) (its (xBD M p q) (M.s,0) n))) = fun j => xPV M p q (it (xBD M p q) (M.s,0) j) := funext fun j => yBe hk j
      rw [hS] at k8
      exact ⟨n,_,G',p',q',a,b,⟨hd,hk⟩,k1,rfl,rfl,k2,k3,k4,k5,k6,k7,k8,k9,k10⟩
    · have hk' := hk
      rw [hcc] at hk'
      obtain ⟨G',k1,k2⟩ := xWF (s := (it (xBD M p q) (M.s,0) n).1) (n := n) hV hL hI hc.1 hk' hll (by rw [xDL]; omega) (by omega)
      rw [← hcc] at k1 k2
      rw [k1]
      refine ih (n + 1) G' (by omega) (xWC hd hk) ?_
      rw [xSb,xL6]
      exact k2
def SL (M : Ma) (p q : List Nat) (j : Nat) : Nat := xPV M p q (it (xBD M p q) (M.s,0) j)
theorem xGf (z1 z2 : Bool) (hV : Vm M) (hL : Lo M.i p q) : ∃ p' q',Canon (SL M p q) p' q' ∧ p'.length ≤ 1000000 ∧ q'.length ≤ 1000000 ∧
    L.pcall 18 [M.av,las z1 z2 p q] = some (.tup [las false false p' q',.int .i64 0]) ∧
    xBs L 18 [M.av,las z1 z2 p q] = some (.tup [.agg [.own false 0 0 p'.length 1,.own false 1 0 q'.length 1],.int .i64 0],[.cells false false (bs p'),.cells false false (bs q')]) := by
  have hc1 := xBM hV
  have p4 := hL.p4
  have q4 := hL.q4
  have io := hV.io
  have hb6 := (xED (show M.i ≤ 6 by omega)).1
  have hc2 := xWD (v := M.i) (z1 := z1) (z2 := z2) (p := p) (q := q) (by omega) (by omega) (by omega) (fun x hx => by have := hL.pb x hx; omega) (fun x hx => by have := hL.qb x hx; omega)
  rw [lasE_zero.2 hL] at hc2
  obtain ⟨n0,F',G',p',q',a,b,k0,k1,kf1,kf2,k2,k3,k4,k5,k6,k7,k8,k9,k10⟩ := yBg (z1 := z1) (z2 := z2) hV hL (M.next.length * (p.length + q.length) + 1) 0
    [.cells false false M.cells,.cells false false [xBf z1 p,xBf z2 q],.cells false false [.sl true 0 [],.sl true 0 []],.cells false false [.nilm,.sl true 0 []]]
    (by omega) (by simp [its]) ⟨rfl,rfl,rfl,⟨.nilm,.sl true 0 [],rfl,.inl ⟨rfl,rfl⟩,.inl ⟨rfl,rfl⟩⟩,by simp⟩
  have hle := xIX k0.1 (xL8 hV hL n0)
  rw [xIY] at hle
  have hm := Nat.mul_le_mul hV.n9 (show p.length + q.length ≤ 128 by omega)
  refine ⟨p',q',k8,by omega,by omega,?_,?_⟩
  · have e1 : (it (xBD M p q) (M.s,0) 0).1 = M.s := rfl
    rw [e1] at k1
    unfold F18 at k1
    unfold Ma.av at hc1 ⊢
    unfold Ma.cells at hc1 k1 ⊢
    simp only [las,Int.natCast_zero] at hc2 k1 ⊢
    rw [yDm,a18,xAB]
    simp (maxSteps := 30000000) (disch := first | assumption | omega | (simp only [WL,AV.isCell] <;> omega) | rfl | decide) only [↓reduceIte,WB,xAL,xAb,xAK,xAp,xAo,AV.cells,AV.isCell,xAa,xAd,xAe,xAr,xAs,xAt,xAu,xAv,xAw,xAJ,xAx,xAy,xAj,xAz,xAk,xAl,xAA,xAm,xAn,xAi,Nat.reduceDiv,Nat.reduceMod,WP,xAG,xAC,xA2,xA0,xAZ,xAF,xAI,xAH,W2,xAf,xAg,xAh,Nat.reduceAdd,Nat.reduceSub,Nat.reduceLeDiff,Nat.reduceMul,Int.reduceAdd,Int.reduceSub,Int.reduceMul,Int.reduceLT,Int.reduceLE,Int.reduceEq,Int.reduceToNat,Int.reduceNeg,Nat.reduceEqDiff,Nat.reduceBEq,Nat.reduceLT,xBz,xB1,xB7,xCg,xCh,xCi,xBA,xB4,List.length_map,xMS,hc1,hc2,k1,kf1,kf2,k2,k6,k7]
  · have hab : (a == b) = false := by simpa using k3
    have e1 : (it (xBD M p q) (M.s,0) 0).1 = M.s := rfl
    rw [e1] at k1
    unfold F18 at k1
    unfold Ma.av at hc1 ⊢
    unfold Ma.cells at hc1 k1 ⊢
    simp only [las,Int.natCast_zero] at hc2 k1 ⊢
    rw [xBJ,yDn,a18,xBQ]
    simp (maxSteps := 30000000) (disch := first | assumption | omega | (simp only [WL,AV.isCell] <;> omega) | rfl | decide) only [↓reduceIte,WB,xAL,xAb,xAK,xAp,xAo,AV.cells,AV.isCell,xAa,xAd,xAe,xAr,xAs,xAt,xAu,xAv,xAw,xAJ,xAx,xAy,xAj,xAz,xAk,xAl,xAA,xAm,xAn,xAi,Nat.reduceDiv,Nat.reduceMod,WP,xAG,xAC,xA2,xA0,xAZ,xAF,xAI,xAH,W2,xAf,xAg,xAh,Nat.reduceAdd,Nat.reduceSub,Nat.reduceLeDiff,Nat.reduceMul,Int.reduceAdd,Int.reduceSub,Int.reduceMul,Int.reduceLT,Int.reduceLE,Int.reduceEq,Int.reduceToNat,Int.reduceNeg,Nat.reduceEqDiff,Nat.reduceBEq,Nat.reduceLT,xBz,xB1,xB7,xCg,xCh,xCi,xBA,xB4,List.length_map,xMS,hc1,hc2,k1,kf1,kf2,k2,hab,k6,k7]
theorem xS6 {m : Mf} (hS : Sm m) (h : xFH m ≠ 0) : L.pcall 18 [m.av,las z1 z2 p q] = some (.tup [xCE,.int .i64 (xFH m)]) ∧ xBs L 18 [m.av,las z1 z2 p q] = some (.tup [xCE,.int .i64 (xFH m)],[]) := by
  have hc := xL4 hS
  generalize xFH m = e at *
  unfold Mf.av at hc ⊢
  unfold Mf.cells at hc ⊢
  constructor
  · rw [yDm,a18,xAB]
    simp (maxSteps := 30000000) (disch := first | assumption | omega | (simp only [WL,AV.isCell] <;> omega) | rfl | decide) only [↓reduceIte,WB,xAL,xAb,xAK,xAp,xAo,AV.cells,AV.isCell,xAa,xAd,xAe,xAr,xAs,xAt,xAu,xAv,xAw,xAJ,xAx,xAy,xAj,xAz,xAk,xAl,xAA,xAm,xAn,xAi,Nat.reduceDiv,Nat.reduceMod,WP,xAG,xAC,xA2,xA0,xAZ,xAF,xAI,xAH,W2,xAf,xAg,xAh,Nat.reduceAdd,Nat.reduceSub,Nat.reduceLeDiff,Nat.reduceMul,Int.reduceAdd,Int.reduceSub,Int.reduceMul,Int.reduceLT,Int.reduceLE,Int.reduceEq,Int.reduceToNat,Int.reduceNeg,Nat.reduceEqDiff,Nat.reduceBEq,Nat.reduceLT,xBz,xB1,xB7,xCg,xCh,xCi,xBA,xB4,List.length_map,hc,h]
  · rw [xBJ,yDn,a18,xBQ]
    simp (maxSteps := 30000000) (disch := first | assumption | omega | (simp only [WL,AV.isCell] <;> omega) | rfl | decide) only [↓reduceIte,WB,xAL,xAb,xAK,xAp,xAo,AV.cells,AV.isCell,xAa,xAd,xAe,xAr,xAs,xAt,xAu,xAv,xAw,xAJ,xAx,xAy,xAj,xAz,xAk,xAl,xAA,xAm,xAn,xAi,Nat.reduceDiv,Nat.reduceMod,WP,xAG,xAC,xA2,xA0,xAZ,xAF,xAI,xAH,W2,xAf,xAg,xAh,Nat.reduceAdd,Nat.reduceSub,Nat.reduceLeDiff,Nat.reduceMul,Int.reduceAdd,Int.reduceSub,Int.reduceMul,Int.reduceLT,Int.reduceLE,Int.reduceEq,Int.reduceToNat,Int.reduceNeg,Nat.reduceEqDiff,Nat.reduceBEq,Nat.reduceLT,xBz,xB1,xB7,xCg,xCh,xCi,xBA,xB4,List.length_map,hc,h]
theorem xGg (hV : Vm M) (hp : p.length < 1099511627776) (hq : q.length < 1099511627776) (bp : ∀ x ∈ p,x < 256) (bq : ∀ x ∈ q,x < 256) (h : xLg M.i p q ≠ 0) : L.pcall 18 [M.av,las z1 z2 p q] = some (.tup [xCE,.int .i64 (xLg M.i p q)]) ∧ xBs L 18 [M.av,las z1 z2 p q] = some (.tup [xCE,.int .i64 (xLg M.i p q)],[]) := by
  have hc1 := xBM hV
  have io := hV.io
  have hc2 := xWD (v := M.i) (z1 := z1) (z2 := z2) (p := p) (q := q) (by omega) hp hq bp bq
  generalize xLg M.i p q = e at *
  unfold Ma.av at hc1 ⊢
  unfold Ma.cells at hc1 ⊢
  simp only [las] at hc2 ⊢
  constructor
  · rw [yDm,a18,xAB]
    simp (maxSteps := 30000000) (disch := first | assumption | omega | (simp only [WL,AV.isCell] <;> omega) | rfl | decide) only [↓reduceIte,WB,xAL,xAb,xAK,xAp,xAo,AV.cells,AV.isCell,xAa,xAd,xAe,xAr,xAs,xAt,xAu,xAv,xAw,xAJ,xAx,xAy,xAj,xAz,xAk,xAl,xAA,xAm,xAn,xAi,Nat.reduceDiv,Nat.reduceMod,WP,xAG,xAC,xA2,xA0,xAZ,xAF,xAI,xAH,W2,xAf,xAg,xAh,Nat.reduceAdd,Nat.reduceSub,Nat.reduceLeDiff,Nat.reduceMul,Int.reduceAdd,Int.reduceSub,Int.reduceMul,Int.reduceLT,Int.reduceLE,Int.reduceEq,Int.reduceToNat,Int.reduceNeg,Nat.reduceEqDiff,Nat.reduceBEq,Nat.reduceLT,xBz,xB1,xB7,xCg,xCh,xCi,xBA,xB4,List.length_map,hc1,hc2,h]
  · rw [xBJ,yDn,a18,xBQ]
    simp (maxSteps := 30000000) (disch := first | assumption | omega | (simp only [WL,AV.isCell] <;> omega) | rfl | decide) only [↓reduceIte,WB,xAL,xAb,xAK,xAp,xAo,AV.cells,AV.isCell,xAa,xAd,xAe,xAr,xAs,xAt,xAu,xAv,xAw,xAJ,xAx,xAy,xAj,xAz,xAk,xAl,xAA,xAm,xAn,xAi,Nat.reduceDiv,Nat.reduceMod,WP,xAG,xAC,xA2,xA0,xAZ,xAF,xAI,xAH,W2,xAf,xAg,xAh,Nat.reduceAdd,Nat.reduceSub,Nat.reduceLeDiff,Nat.reduceMul,Int.reduceAdd,Int.reduceSub,Int.reduceMul,Int.reduceLT,Int.reduceLE,Int.reduceEq,Int.reduceToNat,Int.reduceNeg,Nat.reduceEqDiff,Nat.reduceBEq,Nat.reduceLT,xBz,xB1,xB7,xCg,xCh,xCi,xBA,xB4,List.length_map,hc1,hc2,h]
def xI5 (v : Nat) (w : List Nat) : Int := if 64 < w.length then 4 else if xET (two v) w = true then 1 else 0
theorem runE_zero {v : Nat} {w : List Nat} : xI5 v w = 0 ↔ w.length ≤ 64 ∧ ∀ x ∈ w,x < two v := by
  unfold xI5
  by_cases c : 64 < w.length
  · rw [if_pos c]; exact ⟨fun h => by omega,fun h => by omega⟩
  · rw [if_neg c]
    by_cases c2 : xET (two v) w = true
    · rw [if_pos c2]
      exact ⟨fun h => by omega,fun h => by rw [bigW_iff.2 h.2] at c2; cases c2⟩
    · rw [if_neg c2]
      exact ⟨fun _ => ⟨by omega,bigW_iff.1 (by simpa using c2)⟩,fun _ => rfl⟩
variable {w : List Nat} {zw : Bool}
theorem yC1 (hV : Vm M) (hb : ∀ x ∈ w,x < 256) (hw : w.length < 1099511627776) : L.icall (.func 52 []) [.sl zw w.length (bs w),.func 53 [.ptr 0 0]] [.cells false false M.cells] = some (.bool (xET (two M.i) w),[.cells false false M.cells]) :=
  yCX (P := fun x => decide (two M.i ≤ x)) (by omega) hb (fun s hs => yD9 hV hs rfl)
theorem xYp {m : Mf} (hS : Sm m) (h : xFH m ≠ 0) : L.pcall 16 [m.av,xBf zw w] = some (.tup [.sl true 0 [],.sl true 0 [],.int .i64 (xFH m)]) ∧ xBs L 16 [m.av,xBf zw w] = some (.tup [.sl true 0 [],.sl true 0 [],.int .i64 (xFH m)],[]) := by
  have hc := xL4 hS
  generalize xFH m = e at *
  unfold Mf.av at hc ⊢
  unfold Mf.cells at hc ⊢
  constructor
  · rw [yB0,a16,xAB]
    simp (maxSteps := 30000000) (disch := first | assumption | omega | (simp only [WL,AV.isCell] <;> omega) | rfl | decide) only [↓reduceIte,WB,xAL,xAb,xAK,xAp,xAo,AV.cells,AV.isCell,xAa,xAd,xAe,xAr,xAs,xAt,xAu,xAv,xAw,xAJ,xAx,xAy,xAj,xAz,xAk,xAl,xAA,xAm,xAn,xAi,Nat.reduceDiv,Nat.reduceMod,WP,xAG,xAC,xA2,xA0,xAZ,xAF,xAI,xAH,W2,xAf,xAg,xAh,Nat.reduceAdd,Nat.reduceSub,Nat.reduceLeDiff,Nat.reduceMul,Int.reduceAdd,Int.reduceSub,Int.reduceMul,Int.reduceLT,Int.reduceLE,Int.reduceEq,Int.reduceToNat,Int.reduceNeg,Nat.reduceEqDiff,Nat.reduceBEq,Nat.reduceLT,xBz,xB1,xB7,xCg,xCh,xCi,xBA,xB4,List.length_map,hc,h]
  · rw [xBJ,yB1,a16,xBQ]
    simp (maxSteps := 30000000) (disch := first | assumption | omega | (simp only [WL,AV.isCell] <;> omega) | rfl | decide) only [↓reduceIte,WB,xAL,xAb,xAK,xAp,xAo,AV.cells,AV.isCell,xAa,xAd,xAe,xAr,xAs,xAt,xAu,xAv,xAw,xAJ,xAx,xAy,xAj,xAz,xAk,xAl,xAA,xAm,xAn,xAi,Nat.reduceDiv,Nat.reduceMod,WP,xAG,xAC,xA2,xA0,xAZ,xAF,xAI,xAH,W2,xAf,xAg,xAh,Nat.reduceAdd,Nat.reduceSub,Nat.reduceLeDiff,Nat.reduceMul,Int.reduceAdd,Int.reduceSub,Int.reduceMul,Int.reduceLT,Int.reduceLE,Int.reduceEq,Int.reduceToNat,Int.reduceNeg,Nat.reduceEqDiff,Nat.reduceBEq,Nat.reduceLT,xBz,xB1,xB7,xCg,xCh,xCi,xBA,xB4,List.length_map,hc,h]
theorem xSd (hV : Vm M) (hb : ∀ x ∈ w,x < 256) (hw : w.length < 1099511627776) (h : xI5 M.i w ≠ 0) : L.pcall 16 [M.av,xBf zw w] = some (.tup [.sl true 0 [],.sl true 0 [],.int .i64 (xI5 M.i w)]) ∧ xBs L 16 [M.av,xBf zw w] = some (.tup [.sl true 0 [],.sl true 0 [],.int .i64 (xI5 M.i w)],[]) := by
  have hc := xBM hV
  have ha := yC1 (zw := zw) hV hb hw
  unfold xI5 at h ⊢
  unfold Ma.av at hc ⊢
  unfold Ma.cells at hc ha ⊢
  by_cases c : 64 < w.length
  · rw [if_pos c]
    have c' : (64 : Int) < (w.length : Nat) := by omega
    constructor
    · rw [yB0,a16,xAB]
      simp (maxSteps := 30000000) (disch := first | assumption | omega | (simp only [WL,AV.isCell] <;> omega) | rfl | decide) only [↓reduceIte,WB,xAL,xAb,xAK,xAp,xAo,AV.cells,AV.isCell,xAa,xAd,xAe,xAr,xAs,xAt,xAu,xAv,xAw,xAJ,xAx,xAy,xAj,xAz,xAk,xAl,xAA,xAm,xAn,xAi,Nat.reduceDiv,Nat.reduceMod,WP,xAG,xAC,xA2,xA0,xAZ,xAF,xAI,xAH,W2,xAf,xAg,xAh,Nat.reduceAdd,Nat.reduceSub,Nat.reduceLeDiff,Nat.reduceMul,Int.reduceAdd,Int.reduceSub,Int.reduceMul,Int.reduceLT,Int.reduceLE,Int.reduceEq,Int.reduceToNat,Int.reduceNeg,Nat.reduceEqDiff,Nat.reduceBEq,Nat.reduceLT,xBz,xB1,xB7,xCg,xCh,xCi,xBA,xB4,List.length_map,hc,c']
    · rw [xBJ,yB1,a16,xBQ]
      simp (maxSteps := 30000000) (disch := first | assumption | omega | (simp only [WL,AV.isCell] <;> omega) | rfl | decide) only [↓reduceIte,WB,xAL,xAb,xAK,xAp,xAo,AV.cells,AV.isCell,xAa,xAd,xAe,xAr,xAs,xAt,xAu,xAv,xAw,xAJ,xAx,xAy,xAj,xAz,xAk,xAl,xAA,xAm,xAn,xAi,Nat.reduceDiv,Nat.reduceMod,WP,xAG,xAC,xA2,xA0,xAZ,xAF,xAI,xAH,W2,xAf,xAg,xAh,Nat.reduceAdd,Nat.reduceSub,Nat.reduceLeDiff,Nat.reduceMul,Int.reduceAdd,Int.reduceSub,Int.reduceMul,Int.reduceLT,Int.reduceLE,Int.reduceEq,Int.reduceToNat,Int.reduceNeg,Nat.reduceEqDiff,Nat.reduceBEq,Nat.reduceLT,xBz,xB1,xB7,xCg,xCh,xCi,xBA,xB4,List.length_map,hc,c']
  · rw [if_neg c] at h ⊢
    have c' : ¬ (64 : Int) < (w.length : Nat) := by omega
    by_cases c2 : xET (two M.i) w = true
    · rw [if_pos c2]
      rw [c2] at ha
      constructor
      · rw [yB0,a16,xAB]
        simp (maxSteps := 30000000) (disch := first | assumption | omega | (simp only [WL,AV.isCell] <;> omega) | rfl | decide) only [↓reduceIte,WB,xAL,xAb,xAK,xAp,xAo,AV.cells,AV.isCell,xAa,xAd,xAe,xAr,xAs,xAt,xAu,xAv,xAw,xAJ,xAx,xAy,xAj,xAz,xAk,xAl,xAA,xAm,xAn,xAi,Nat.reduceDiv,Nat.reduceMod,WP,xAG,xAC,xA2,xA0,xAZ,xAF,xAI,xAH,W2,xAf,xAg,xAh,Nat.reduceAdd,Nat.reduceSub,Nat.reduceLeDiff,Nat.reduceMul,Int.reduceAdd,Int.reduceSub,Int.reduceMul,Int.reduceLT,Int.reduceLE,Int.reduceEq,Int.reduceToNat,Int.reduceNeg,Nat.reduceEqDiff,Nat.reduceBEq,Nat.reduceLT,xBz,xB1,xB7,xCg,xCh,xCi,xBA,xB4,List.length_map,hc,c',ha]
      · rw [xBJ,yB1,a16,xBQ]
        simp (maxSteps := 30000000) (disch := first | assumption | omega | (simp only [WL,AV.isCell] <;> omega) | rfl | decide) only [↓reduceIte,WB,xAL,xAb,xAK,xAp,xAo,AV.cells,AV.isCell,xAa,xAd,xAe,xAr,xAs,xAt,xAu,xAv,xAw,xAJ,xAx,xAy,xAj,xAz,xAk,xAl,xAA,xAm,xAn,xAi,Nat.reduceDiv,Nat.reduceMod,WP,xAG,xAC,xA2,xA0,xAZ,xAF,xAI,xAH,W2,xAf,xAg,xAh,Nat.reduceAdd,Nat.reduceSub,Nat.reduceLeDiff,Nat.reduceMul,Int.reduceAdd,Int.reduceSub,Int.reduceMul,Int.reduceLT,Int.reduceLE,Int.reduceEq,Int.reduceToNat,Int.reduceNeg,Nat.reduceEqDiff,Nat.reduceBEq,Nat.reduceLT,xBz,xB1,xB7,xCg,xCh,xCi,xBA,xB4,List.length_map,hc,c',ha]
    · rw [if_neg c2] at h; exact absurd rfl h
theorem xSe (hV : Vm M) (h : xI5 M.i w = 0) : (∃ z,L.pcall 16 [M.av,xBf zw w] = some (.tup [.sl z w.length (bs (xEV M M.s w)),.sl false (w.length + 1) (xBp (M.s :: xEl M M.s w)),.int .i64 0])) ∧
    ((w = [] ∧ xBs L 16 [M.av,xBf zw w] = some (.tup [.sl true 0 [],.own false 0 0 1 1,.int .i64 0],[.cells false false (xBp [M.s])])) ∨
      xBs L 16 [M.av,xBf zw w] = some (.tup [.own false 0 0 w.length 1,.own false 1 0 (w.length + 1) 1,.int .i64 0],[.cells false false (bs (xEV M M.s w)),.cells false false (xBp (M.s :: xEl M M.s w))])) := by
  have hz := runE_zero.1 h
  have io := hV.io
  have hb6 := (xED (show M.i ≤ 6 by omega)).1
  have hb : ∀ x ∈ w,x < 256 := fun x hx => by have := hz.2 x hx; omega
  have hc := xBM hV
  have ha := yC1 (zw := zw) hV hb (by omega)
  rw [bigW_iff.2 hz.2] at ha
  have c' : ¬ (64 : Int) < (w.length : Nat) := by omega
  by_cases hw0 : w = []
  · subst hw0
    unfold Ma.av at hc ⊢
    unfold Ma.cells at hc ha ⊢
    have e1 : M.s :: xEl M M.s [] = [M.s] := rfl
    have e2 : xEV M M.s [] = [] := rfl
    rw [e1,e2]
    simp only [xBf,List.length_nil,bs,List.map_nil] at ha ⊢
    refine ⟨⟨true,?_⟩,.inl ⟨trivial,?_⟩⟩
    · rw [yB0,a16,xAB]
      simp (maxSteps := 30000000) (disch := first | assumption | omega | (simp only [WL,AV.isCell] <;> omega) | rfl | decide) only [↓reduceIte,WB,xAL,xAb,xAK,xAp,xAo,AV.cells,AV.isCell,xAa,xAd,xAe,xAr,xAs,xAt,xAu,xAv,xAw,xAJ,xAx,xAy,xAj,xAz,xAk,xAl,xAA,xAm,xAn,xAi,Nat.reduceDiv,Nat.reduceMod,WP,xAG,xAC,xA2,xA0,xAZ,xAF,xAI,xAH,W2,xAf,xAg,xAh,Nat.reduceAdd,Nat.reduceSub,Nat.reduceLeDiff,Nat.reduceMul,Int.reduceAdd,Int.reduceSub,Int.reduceMul,Int.reduceLT,Int.reduceLE,Int.reduceEq,Int.reduceToNat,Int.reduceNeg,Nat.reduceEqDiff,Nat.reduceBEq,Nat.reduceLT,xBz,xB1,xB7,xCg,xCh,xCi,xBA,xB4,List.length_map,xHJ,xMN,xHH,hc,ha]
      try rfl
    · rw [xBJ,yB1,a16,xBQ]
      simp (maxSteps := 30000000) (disch := first | assumption | omega | (simp only [WL,AV.isCell] <;> omega) | rfl | decide) only [↓reduceIte,WB,xAL,xAb,xAK,xAp,xAo,AV.cells,AV.isCell,xAa,xAd,xAe,xAr,xAs,xAt,xAu,xAv,xAw,xAJ,xAx,xAy,xAj,xAz,xAk,xAl,xAA,xAm,xAn,xAi,Nat.reduceDiv,Nat.reduceMod,WP,xAG,xAC,xA2,xA0,xAZ,xAF,xAI,xAH,W2,xAf,xAg,xAh,Nat.reduceAdd,Nat.reduceSub,Nat.reduceLeDiff,Nat.reduceMul,Int.reduceAdd,Int.reduceSub,Int.reduceMul,Int.reduceLT,Int.reduceLE,Int.reduceEq,Int.reduceToNat,Int.reduceNeg,Nat.reduceEqDiff,Nat.reduceBEq,Nat.reduceLT,xBz,xB1,xB7,xCg,xCh,xCi,xBA,xB4,List.length_map,xHJ,xMN,xHH,hc,ha]
      try rfl
  obtain ⟨G',ov',sv',s',j1,j2⟩ := yBd (zw := zw) hV hz.2 (by omega) w.length 0 M.s [] [M.s] (.sl true 0 []) (.own false 1 0 1 1) [.cells false false M.cells,.cells false false (xBp [M.s])] (by omega) hV.s rfl ⟨1,rfl,by omega,rfl,.inl ⟨rfl,rfl⟩⟩ rfl rfl
  rw [List.drop_zero,List.nil_append] at j2
  obtain ⟨b,rfl,hb1,hbs,h3⟩ := j2
  have lo := xCo M w M.s
  have lt := xCp M w M.s
  have ls : ([M.s] ++ xEl M M.s w).length = w.length + 1 := by simp [lt]
  unfold F16 at j1
  simp only [Int.natCast_zero] at j1
  unfold Ma.av at hc ⊢
  unfold Ma.cells at hc ha j1 ⊢
  rw [ls] at j1
  have his : xBp [M.s] = [.int .i64 (M.s : Nat)] := rfl
  rw [his] at j1
  rw [List.singleton_append] at hbs
  have lss : (M.s :: xEl M M.s w).length = w.length + 1 := by rw [List.length_cons,lt]
  generalize M.s :: xEl M M.s w = st at *
  rcases h3 with ⟨rfl,h4⟩ | ⟨a,rfl,ha1,hab,has⟩
  · rw [h4] at lo; exact absurd (List.length_eq_zero_iff.1 lo.symm) hw0
  · have hab' : (a == b) = false := by simpa using hab
    rw [lo] at j1
    refine ⟨⟨false,?_⟩,.inr ?_⟩
    · rw [yB0,a16,xAB]
      simp (maxSteps := 30000000) (disch := first | assumption | omega | (simp only [WL,AV.isCell] <;> omega) | rfl | decide) only [↓reduceIte,WB,xAL,xAb,xAK,xAp,xAo,AV.cells,AV.isCell,xAa,xAd,xAe,xAr,xAs,xAt,xAu,xAv,xAw,xAJ,xAx,xAy,xAj,xAz,xAk,xAl,xAA,xAm,xAn,xAi,Nat.reduceDiv,Nat.reduceMod,WP,xAG,xAC,xA2,xA0,xAZ,xAF,xAI,xAH,W2,xAf,xAg,xAh,Nat.reduceAdd,Nat.reduceSub,Nat.reduceLeDiff,Nat.reduceMul,Int.reduceAdd,Int.reduceSub,Int.reduceMul,Int.reduceLT,Int.reduceLE,Int.reduceEq,Int.reduceToNat,Int.reduceNeg,Nat.reduceEqDiff,Nat.reduceBEq,Nat.reduceLT,xBz,xB1,xB7,xCg,xCh,xCi,xBA,xB4,List.length_map,xHJ,hc,c',ha,j1,hbs,has,lo,lss]
      rw [List.take_of_length_le (by omega),List.take_of_length_le (by omega)]
    · rw [xBJ,yB1,a16,xBQ]
      simp (maxSteps := 30000000) (disch := first | assumption | omega | (simp only [WL,AV.isCell] <;> omega) | rfl | decide) only [↓reduceIte,WB,xAL,xAb,xAK,xAp,xAo,AV.cells,AV.isCell,xAa,xAd,xAe,xAr,xAs,xAt,xAu,xAv,xAw,xAJ,xAx,xAy,xAj,xAz,xAk,xAl,xAA,xAm,xAn,xAi,Nat.reduceDiv,Nat.reduceMod,WP,xAG,xAC,xA2,xA0,xAZ,xAF,xAI,xAH,W2,xAf,xAg,xAh,Nat.reduceAdd,Nat.reduceSub,Nat.reduceLeDiff,Nat.reduceMul,Int.reduceAdd,Int.reduceSub,Int.reduceMul,Int.reduceLT,Int.reduceLE,Int.reduceEq,Int.reduceToNat,Int.reduceNeg,Nat.reduceEqDiff,Nat.reduceBEq,Nat.reduceLT,xBz,xB1,xB7,xCg,xCh,xCi,xBA,xB4,List.length_map,xHJ,hc,c',ha,j1,hbs,has,hab',lo,lss]
end
end Go.Abs.Mealy
