/- A heap that is not looked into: words for its reads and xA8; a map's entries that number their keys. -/
import Derived.Test.YtkpbekcgigigkaaDoorAMA
import Derived.Test.YtkpbekcgigigkaaDoorAbsWalk2
import Derived.Test.YtkpbekcgigigkaaDoorAbsBun
import Derived.Test.YtkpbekcgigigkaaDoorAMB
import Derived.Test.YtkpbekcgigigkaaDoorAbsIn
namespace Go.Abs.Mealy
open Go Go.Abs
set_option linter.unusedSimpArgs false
set_option linter.unusedVariables false
section
variable {G l : Heap} {b : Blk} {f : Blk → Blk} {j k n : Nat}
theorem xBi (h : k < G.length) : (G ++ l)[k]? = G[k]? := List.getElem?_append_left h
theorem xCr (h : G.length = n) : (G ++ l)[n + k]? = l[k]? := by subst h; exact xRL G l k
theorem xDL (h : G.length = n) : (G ++ l)[n]? = l[0]? := by subst h; exact xS0 G l
theorem xDM (h : k < G.length) : (G ++ l).set k b = G.set k b ++ l := List.set_append_left k b h
theorem xDN (h : G.length = n) : (G ++ l).set (n + k) b = G ++ l.set k b := by subst h; exact xCG G l k b
theorem xDO (h : G.length = n) : (G ++ l).set n b = G ++ l.set 0 b := by subst h; exact xS1 G l b
theorem xZi (h : k < G.length) : (G ++ l).modify k f = G.modify k f ++ l := by
  apply List.ext_getElem?
  intro i
  by_cases e : i < G.length
  · rw [List.getElem?_append_left (by simpa using e),List.getElem?_modify,List.getElem?_modify,List.getElem?_append_left e]
  · rw [List.getElem?_append_right (by simpa using e),List.getElem?_modify,List.getElem?_append_right (by omega),List.length_modify]
    have : ¬ k = i := by omega
    simp [this]
theorem xBe (h : j ≠ k) : (G.set j b)[k]? = G[k]? := List.getElem?_set_ne h
theorem xCp (h : k < G.length) : (G.set k b)[k]? = some b := List.getElem?_set_self h
theorem xVc (h : j ≠ k) : (G.modify j f)[k]? = G[k]? := by rw [List.getElem?_modify]; simp [h]
theorem xFB {x : Blk} (h : G[k]? = some x) : k < G.length := (List.getElem?_eq_some_iff.1 h).1
end
def xY7 (neg : Bool) (H : Heap) : AV → Option (AV × Heap)
  | .nilm => some (.bool (true != neg),H)
  | .mp _ => some (.bool (false != neg),H)
  | _ => none
theorem xCV (neg : Bool) (H : Heap) : xY7 neg H .nilm = some (.bool (!neg),H) := by cases neg <;> rfl
theorem xD2 (neg : Bool) (H : Heap) (q : Nat) : xY7 neg H (.mp q) = some (.bool neg,H) := by cases neg <;> rfl
theorem xFC (R : Rec) (F : List AV) (H : Heap) (neg : Bool) (x : Arg) : xAb R F H (.mnil neg x) = xY7 neg H (opv F x) := rfl
theorem xD3 (R : Rec) (F : List AV) (H : Heap) (ks : List Nat) (c : Bool) (z : AV) (x k : Arg) : xAQ R F H (.mlook ks c z x k) = xDX H (xAb R F H (.mlook ks c z x k)) := xB9 _ rfl
def Kt (B T : Nat) (G G' : Heap) : Prop := G.length ≤ G'.length ∧ ∀ b,b < B → b ≠ T → G'[b]? = G[b]?
theorem Kt.refl (B T : Nat) (G : Heap) : Kt B T G G := ⟨Nat.le_refl _,fun _ _ _ => rfl⟩
theorem Kt.trans {B T : Nat} {G G' G2 : Heap} (h : Kt B T G G') (h2 : Kt B T G' G2) : Kt B T G G2 := ⟨Nat.le_trans h.1 h2.1,fun b hb ht => (h2.2 b hb ht).trans (h.2 b hb ht)⟩
def ent {α : Type} (kv : α → AV) : List α → Nat → List (AV × AV)
  | [],_ => []
  | a :: t,i => (kv a,.int .i64 (i : Nat)) :: ent kv t (i + 1)
def xY8 {α : Type} [DecidableEq α] (kv : α → AV) : Prop := ∀ a b,xBR (kv a) (kv b) = some (decide (a = b))
section
variable {α : Type} {kv : α → AV}
variable [DecidableEq α]
def pos (a : α) : List α → Nat
  | [] => 0
  | b :: t => if a = b then 0 else pos a t + 1
theorem xQL {a : α} : ∀ {ks : List α},a ∈ ks → pos a ks < ks.length
  | b :: t,h => by
    unfold pos
    by_cases c : a = b
    · rw [if_pos c]; simp
    · rw [if_neg c]
      have := xQL ((List.mem_cons.1 h).resolve_left c)
      rw [List.length_cons]; omega
theorem xXQ {a d : α} : ∀ {ks : List α},a ∈ ks → ks.getD (pos a ks) d = a
  | b :: t,h => by
    unfold pos
    by_cases c : a = b
    · rw [if_pos c]; exact c.symm
    · rw [if_neg c,List.getD_cons_succ]
      exact xXQ ((List.mem_cons.1 h).resolve_left c)
theorem xE9 (hk : xY8 kv) (a : α) : ∀ (ks : List α) (i : Nat),xED (kv a) (ent kv ks i) = some (if a ∈ ks then some (.int .i64 ((i + pos a ks : Nat))) else none)
  | [],i => by simp [ent,xED]
  | b :: t,i => by
    have ih := xE9 hk a t (i + 1)
    rw [ent,xED,hk a b]
    unfold pos
    by_cases c : a = b
    · subst c
      rw [decide_eq_true rfl]
      simp
    · rw [decide_eq_false c,if_neg c]
      simp only [ih]
      by_cases m : a ∈ t
      · rw [if_pos m,if_pos (List.mem_cons_of_mem _ m),show i + 1 + pos a t = i + (pos a t + 1) by omega]
      · rw [if_neg m,if_neg (by simp [c,m])]
theorem xON (hk : xY8 kv) (a : α) : ∀ (ks : List α) (i : Nat),a ∉ ks → xRK (kv a) (.int .i64 ((i + ks.length : Nat))) (ent kv ks i) = some (ent kv (ks ++ [a]) i)
  | [],i,_ => rfl
  | b :: t,i,h => by
    have ih := xON hk a t (i + 1) (fun m => h (List.mem_cons_of_mem _ m))
    have c : ¬ a = b := fun e => h (by simp [e])
    rw [List.length_cons,show i + (t.length + 1) = i + 1 + t.length by omega,ent,xRK,hk a b,decide_eq_false c]
    simp only [ih,Option.map_some]
    rfl
end
def kv2 (p : Nat × Nat) : AV := .agg [.int .i64 (p.1 : Nat),.int .i64 (p.2 : Nat)]
theorem xKz : xY8 kv2 := by
  intro a b
  obtain ⟨a1,a2⟩ := a
  obtain ⟨b1,b2⟩ := b
  have e : xBR (kv2 (a1,a2)) (kv2 (b1,b2)) = some (((a1 : Int) == (b1 : Int)) && (((a2 : Int) == (b2 : Int)) && true)) := rfl
  rw [e,Bool.and_true]
  congr 1
  by_cases c1 : a1 = b1
  · subst c1
    by_cases c2 : a2 = b2
    · subst c2; simp
    · rw [decide_eq_false (fun h => c2 (by injection h))]
      have : ¬ (a2 : Int) = b2 := by omega
      simp [this]
  · rw [decide_eq_false (fun h => c1 (by injection h))]
    have : ¬ (a1 : Int) = b1 := by omega
    simp [this]
theorem xQM : ∀ (n : Nat) (l : List Nat),l.Nodup → (∀ x ∈ l,x < n) → l.length ≤ n
  | 0,[],_,_ => Nat.le_refl _
  | 0,x :: t,_,h => absurd (h x (by simp)) (by omega)
  | n + 1,l,hd,h => by
    have h1 := xQM n (l.filter (fun x => decide (x ≠ n))) (hd.filter _) (fun x hx => by
      have := List.mem_filter.1 hx
      have h2 := h x this.1
      have h3 := of_decide_eq_true this.2
      omega)
    have h2 : ∀ l : List Nat,l.Nodup → l.length ≤ (l.filter (fun x => decide (x ≠ n))).length + 1 := by
      intro l hd
      induction l with
      | nil => simp
      | cons x t ih =>
        rw [List.nodup_cons] at hd
        by_cases e : x = n
        · subst e
          have : t.filter (fun y => decide (y ≠ x)) = t := List.filter_eq_self.2 fun y hy => by
            simp only [ne_eq,decide_eq_true_eq]
            rintro rfl; exact hd.1 hy
          rw [List.filter_cons_of_neg (by simp),this]; simp
        · have := ih hd.2
          simp [List.filter_cons,e] at this ⊢
          omega
    have := h2 l hd
    omega
theorem xCW {n m : Nat} {l : List (Nat × Nat)} (hd : l.Nodup) (h : ∀ x ∈ l,x.1 < n ∧ x.2 < m) : l.length ≤ n * m := by
  have h1 : (l.map fun x => x.1 * m + x.2).Nodup := by
    rw [List.nodup_iff_pairwise_ne,List.pairwise_map]
    refine List.Pairwise.imp_of_mem ?_ (List.nodup_iff_pairwise_ne.1 hd)
    intro a b ha hb hne e
    have h1 := h a ha
    have h2 := h b hb
    apply hne
    have e1 : a.1 = b.1 := by
      have h3 : (a.1 * m + a.2) / m = a.1 := by rw [Nat.mul_comm,Nat.mul_add_div (by omega),Nat.div_eq_of_lt h1.2]; omega
      have h4 : (b.1 * m + b.2) / m = b.1 := by rw [Nat.mul_comm,Nat.mul_add_div (by omega),Nat.div_eq_of_lt h2.2]; omega
      rw [← h3,← h4,e]
    have e2 : a.2 = b.2 := by rw [e1] at e; omega
    exact Prod.ext e1 e2
  have := xQM (n * m) _ h1 (by
    intro x hx
    obtain ⟨a,ha,rfl⟩ := List.mem_map.1 hx
    have h1 := h a ha
    have : (a.1 + 1) * m ≤ n * m := Nat.mul_le_mul_right m (by omega)
    rw [Nat.add_mul,Nat.one_mul] at this
    omega)
  rwa [List.length_map] at this
def TrI (B T : Nat) (G : Heap) (ks : List (Nat × Nat)) (w : List Nat) : Prop :=
  ∃ mv wv,G[T]? = some (.cells false false [mv,wv]) ∧
    ((mv = .nilm ∧ ks = []) ∨ ∃ q,mv = .mp q ∧ B ≤ q ∧ G[q]? = some (.mp (ent kv2 ks 0))) ∧
    ((wv = .sl true 0 [] ∧ w = []) ∨ ∃ p,wv = .own false p 0 w.length 1 ∧ B ≤ p ∧ G[p]? = some (.cells false false (bs w)))
abbrev xNZ : AV := .agg [.sl true 0 [],.sl true 0 []]
section
variable {B T : Nat} {G : Heap} {ks : List (Nat × Nat)} {w : List Nat} {k : Nat × Nat}
theorem xWv (hT : T < B) (hB : B ≤ G.length) (h : TrI B T G ks w) (hk : k ∉ ks) (hl : w.length = ks.length) (hw : w.length < 1099511627776) :
    ∃ G',L.icall (.func 54 []) [.ptr T 0,kv2 k] G = some (.tup [xNZ,.bool false],G') ∧ TrI B T G' (ks ++ [k]) w ∧ Kt B T G G' := by
  obtain ⟨mv,wv,h1,h2,h3⟩ := h
  obtain ⟨k1,k2⟩ := k
  have hu := xON xKz (k1,k2) ks 0 hk
  have hf := xE9 xKz (k1,k2) ks 0
  rw [if_neg hk] at hf
  rw [Nat.zero_add,← hl] at hu
  have hG := xFB h1
  have hlen : yAo wv = some (.int .i64 (w.length : Nat)) := by
    rcases h3 with ⟨rfl,rfl⟩ | ⟨p,rfl,hp,hpw⟩ <;> rfl
  have hcell : wv.isCell = true := by
    rcases h3 with ⟨rfl,rfl⟩ | ⟨p,rfl,hp,hpw⟩ <;> rfl
  simp only [kv2] at hu hf ⊢
  rcases h2 with ⟨rfl,rfl⟩ | ⟨q,rfl,hq,hqm⟩
  · have hu' : xRK (.agg [.int .i64 (k1 : Nat),.int .i64 (k2 : Nat)]) (.int .i64 (w.length : Nat)) [] = some (ent kv2 [(k1,k2)] 0) := hu
    refine ⟨G.set T (.cells false false [.mp (G.length + 2),wv]) ++ [.cells false false [.int .i64 (k1 : Nat),.int .i64 (k2 : Nat)],.cells false false [.sl true 0 [],.sl true 0 []],.mp (ent kv2 [(k1,k2)] 0)],?_,⟨.mp (G.length + 2),wv,?_,.inr ⟨G.length + 2,rfl,by omega,?_⟩,?_⟩,?_,?_⟩
    · rw [yBv,a54]
      simp (maxSteps := 30000000) (disch := first | assumption | omega | (simp only [WL,AV.isCell,List.length_modify] <;> omega) | rfl | decide) only [↓reduceIte,WB,xAu,xAc,xAt,xAk,xAj,AV.cells,AV.isCell,xAa,xAd,xAe,WP,xAH,xAA,xBz,xBw,xBn,xAF,xAM,xAJ,WM,W2,xAf,xAg,xAh,Nat.reduceAdd,Nat.reduceSub,Nat.reduceLeDiff,Nat.reduceMul,Int.reduceAdd,Int.reduceSub,Int.reduceMul,Int.reduceLT,Int.reduceLE,Int.reduceEq,Int.reduceToNat,Int.reduceNeg,Nat.reduceEqDiff,Nat.reduceBEq,Nat.reduceLT,xBi,xCr,xDL,xDM,xDN,xDO,xZi,xBe,xCp,xVc,List.length_modify,xFC,xCV,xD2,xD3,xCf,xBX,xBY,List.set_set,h1,hu',hlen,hcell,xED]
    · rw [xBi (by simpa using hG),xCp hG]
    · rw [xCr (by simp)]; rfl
    · rcases h3 with h3 | ⟨p,rfl,hp,hpw⟩
      · exact .inl h3
      · have := xFB hpw
        exact .inr ⟨p,rfl,hp,by rw [xBi (by simpa using this),xBe (by rintro rfl; omega),hpw]⟩
    · simp
    · intro b hb ht
      rw [xBi (by simp; omega),xBe (fun e => ht e.symm)]
  · have hGq := xFB hqm
    refine ⟨G.set q (.mp (ent kv2 (ks ++ [(k1,k2)]) 0)) ++ [.cells false false [.int .i64 (k1 : Nat),.int .i64 (k2 : Nat)],.cells false false [.sl true 0 [],.sl true 0 []]],?_,⟨.mp q,wv,?_,.inr ⟨q,rfl,hq,?_⟩,?_⟩,?_,?_⟩
    · rw [yBv,a54]
      simp (maxSteps := 30000000) (disch := first | assumption | omega | (simp only [WL,AV.isCell,List.length_modify] <;> omega) | rfl | decide) only [↓reduceIte,WB,xAu,xAc,xAt,xAk,xAj,AV.cells,AV.isCell,xAa,xAd,xAe,WP,xAH,xAA,xBz,xBw,xBn,xAF,xAM,xAJ,WM,W2,xAf,xAg,xAh,Nat.reduceAdd,Nat.reduceSub,Nat.reduceLeDiff,Nat.reduceMul,Int.reduceAdd,Int.reduceSub,Int.reduceMul,Int.reduceLT,Int.reduceLE,Int.reduceEq,Int.reduceToNat,Int.reduceNeg,Nat.reduceEqDiff,Nat.reduceBEq,Nat.reduceLT,xBi,xCr,xDL,xDM,xDN,xDO,xZi,xBe,xCp,xVc,List.length_modify,xFC,xCV,xD2,xD3,xCf,xBX,xBY,List.set_set,h1,hu,hf,hlen,hqm]
    · rw [xBi (by simpa using hG),xBe (by omega),h1]
    · rw [xBi (by simpa using hGq),xCp hGq]
    · rcases h3 with h3 | ⟨p,rfl,hp,hpw⟩
      · exact .inl h3
      · have := xFB hpw
        exact .inr ⟨p,rfl,hp,by rw [xBi (by simpa using this),xBe (by rintro rfl; rw [hpw] at hqm; cases hqm),hpw]⟩
    · simp
    · intro b hb ht
      rw [xBi (by simp; omega),xBe (by omega)]
theorem xWw (hT : T < B) (hB : B ≤ G.length) (h : TrI B T G ks w) (hk : k ∈ ks) (hl : w.length = ks.length) (hw : w.length < 1099511627776) :
    ∃ G' a b p' q',L.icall (.func 54 []) [.ptr T 0,kv2 k] G = some (.tup [.agg [.own false a 0 p'.length 1,.own false b 0 q'.length 1],.bool true],G') ∧
      Canon (xAY (w.take (pos k ks)) (w.drop (pos k ks))) p' q' ∧ B ≤ a ∧ B ≤ b ∧ a ≠ b ∧ G'[a]? = some (.cells false false (bs p')) ∧ G'[b]? = some (.cells false false (bs q')) ∧
      p'.length ≤ w.length ∧ q'.length ≤ w.length ∧ Kt B T G G' := by
  obtain ⟨mv,wv,h1,h2,h3⟩ := h
  have hn := xQL hk
  have hf := xE9 xKz k ks 0
  rw [if_pos hk,Nat.zero_add] at hf
  generalize pos k ks = n at *
  obtain ⟨k1,k2⟩ := k
  have hG := xFB h1
  rcases h2 with ⟨rfl,rfl⟩ | ⟨q,rfl,hq,hqm⟩
  · simp at hn
  rcases h3 with ⟨rfl,rfl⟩ | ⟨p,rfl,hp,hpw⟩
  · simp at hl; omega
  have hGp := xFB hpw
  have hGq := xFB hqm
  have e1 : (w.take n).length = n := by rw [List.length_take]; omega
  have e2 : (w.drop n).length = w.length - n := List.length_drop ..
  obtain ⟨p',q',c1,c2,c3,-,c5⟩ := xIf false (w.take n) (w.drop n) (by omega) (by omega)
  have e3 : (xAI (w.drop n)).length = w.length - n := by rw [xBF]; omega
  have hn2 : (n : Int) ≤ (w.length : Nat) := by omega
  simp only [las,xBc,e1,e2] at c5
  simp only [kv2] at hf ⊢
  refine ⟨(G.modify p xAj).modify p xAj ++ [.cells false false [.int .i64 (k1 : Nat),.int .i64 (k2 : Nat)],.cells false false [.own false (G.length + 2) 0 p'.length 1,.own false (G.length + 3) 0 q'.length 1],.cells false false (bs p'),.cells false false (bs q')],G.length + 2,G.length + 3,p',q',?_,c1,by omega,by omega,by omega,?_,?_,by omega,by omega,?_,?_⟩
  · rw [yBv,a54]
    simp (maxSteps := 30000000) (disch := first | assumption | omega | (simp only [WL,AV.isCell,List.length_modify] <;> omega) | rfl | decide) only [↓reduceIte,WB,xAu,xAc,xAt,xAk,xAj,AV.cells,AV.isCell,xAa,xAd,xAe,WP,xAH,xAA,xBz,xBw,xBn,xAF,xAM,xAJ,WM,W2,xAf,xAg,xAh,Nat.reduceAdd,Nat.reduceSub,Nat.reduceLeDiff,Nat.reduceMul,Int.reduceAdd,Int.reduceSub,Int.reduceMul,Int.reduceLT,Int.reduceLE,Int.reduceEq,Int.reduceToNat,Int.reduceNeg,Nat.reduceEqDiff,Nat.reduceBEq,Nat.reduceLT,xBi,xCr,xDL,xDM,xDN,xDO,xZi,xBe,xCp,xVc,List.length_modify,xFC,xCV,xD2,xD3,xCf,xBX,xBY,List.set_set,h1,hf,hqm,hpw,hn2,c5]
  · rw [xCr (by simp)]; rfl
  · rw [xCr (by simp)]; rfl
  · simp
  · intro b hb ht
    rw [xBi (by simp; omega),xVc (by omega),xVc (by omega)]
theorem xWx (hT : T < B) (hB : B ≤ G.length) (h : TrI B T G ks w) (hk : k ∉ ks) (hl : w.length = ks.length) (hw : w.length < 1099511627776) :
    ∃ G',L.icall (.func 68 []) [.ptr T 0,kv2 k] G = some (.tup [xNZ,.bool false],G') ∧ TrI B T G' (ks ++ [k]) w ∧ Kt B T G G' := by
  obtain ⟨mv,wv,h1,h2,h3⟩ := h
  obtain ⟨k1,k2⟩ := k
  have hu := xON xKz (k1,k2) ks 0 hk
  have hf := xE9 xKz (k1,k2) ks 0
  rw [if_neg hk] at hf
  rw [Nat.zero_add,← hl] at hu
  have hG := xFB h1
  have hlen : yAo wv = some (.int .i64 (w.length : Nat)) := by
    rcases h3 with ⟨rfl,rfl⟩ | ⟨p,rfl,hp,hpw⟩ <;> rfl
  have hcell : wv.isCell = true := by
    rcases h3 with ⟨rfl,rfl⟩ | ⟨p,rfl,hp,hpw⟩ <;> rfl
  simp only [kv2] at hu hf ⊢
  rcases h2 with ⟨rfl,rfl⟩ | ⟨q,rfl,hq,hqm⟩
  · have hu' : xRK (.agg [.int .i64 (k1 : Nat),.int .i64 (k2 : Nat)]) (.int .i64 (w.length : Nat)) [] = some (ent kv2 [(k1,k2)] 0) := hu
    refine ⟨G.set T (.cells false false [.mp (G.length + 2),wv]) ++ [.cells false false [.int .i64 (k1 : Nat),.int .i64 (k2 : Nat)],.cells false false [.sl true 0 [],.sl true 0 []],.mp (ent kv2 [(k1,k2)] 0)],?_,⟨.mp (G.length + 2),wv,?_,.inr ⟨G.length + 2,rfl,by omega,?_⟩,?_⟩,?_,?_⟩
    · rw [yBw,a68]
      simp (maxSteps := 30000000) (disch := first | assumption | omega | (simp only [WL,AV.isCell,List.length_modify] <;> omega) | rfl | decide) only [↓reduceIte,WB,xAu,xAc,xAt,xAk,xAj,AV.cells,AV.isCell,xAa,xAd,xAe,WP,xAH,xAA,xBz,xBw,xBn,xAF,xAM,xAJ,WM,W2,xAf,xAg,xAh,Nat.reduceAdd,Nat.reduceSub,Nat.reduceLeDiff,Nat.reduceMul,Int.reduceAdd,Int.reduceSub,Int.reduceMul,Int.reduceLT,Int.reduceLE,Int.reduceEq,Int.reduceToNat,Int.reduceNeg,Nat.reduceEqDiff,Nat.reduceBEq,Nat.reduceLT,xBi,xCr,xDL,xDM,xDN,xDO,xZi,xBe,xCp,xVc,List.length_modify,xFC,xCV,xD2,xD3,xCf,xBX,xBY,List.set_set,h1,hu',hlen,hcell,xED]
    · rw [xBi (by simpa using hG),xCp hG]
    · rw [xCr (by simp)]; rfl
    · rcases h3 with h3 | ⟨p,rfl,hp,hpw⟩
      · exact .inl h3
      · have := xFB hpw
        exact .inr ⟨p,rfl,hp,by rw [xBi (by simpa using this),xBe (by rintro rfl; omega),hpw]⟩
    · simp
    · intro b hb ht
      rw [xBi (by simp; omega),xBe (fun e => ht e.symm)]
  · have hGq := xFB hqm
    refine ⟨G.set q (.mp (ent kv2 (ks ++ [(k1,k2)]) 0)) ++ [.cells false false [.int .i64 (k1 : Nat),.int .i64 (k2 : Nat)],.cells false false [.sl true 0 [],.sl true 0 []]],?_,⟨.mp q,wv,?_,.inr ⟨q,rfl,hq,?_⟩,?_⟩,?_,?_⟩
    · rw [yBw,a68]
      simp (maxSteps := 30000000) (disch := first | assumption | omega | (simp only [WL,AV.isCell,List.length_modify] <;> omega) | rfl | decide) only [↓reduceIte,WB,xAu,xAc,xAt,xAk,xAj,AV.cells,AV.isCell,xAa,xAd,xAe,WP,xAH,xAA,xBz,xBw,xBn,xAF,xAM,xAJ,WM,W2,xAf,xAg,xAh,Nat.reduceAdd,Nat.reduceSub,Nat.reduceLeDiff,Nat.reduceMul,Int.reduceAdd,Int.reduceSub,Int.reduceMul,Int.reduceLT,Int.reduceLE,Int.reduceEq,Int.reduceToNat,Int.reduceNeg,Nat.reduceEqDiff,Nat.reduceBEq,Nat.reduceLT,xBi,xCr,xDL,xDM,xDN,xDO,xZi,xBe,xCp,xVc,List.length_modify,xFC,xCV,xD2,xD3,xCf,xBX,xBY,List.set_set,h1,hu,hf,hlen,hqm]
    · rw [xBi (by simpa using hG),xBe (by omega),h1]
    · rw [xBi (by simpa using hGq),xCp hGq]
    · rcases h3 with h3 | ⟨p,rfl,hp,hpw⟩
      · exact .inl h3
      · have := xFB hpw
        exact .inr ⟨p,rfl,hp,by rw [xBi (by simpa using this),xBe (by rintro rfl; rw [hpw] at hqm; cases hqm),hpw]⟩
    · simp
    · intro b hb ht
      rw [xBi (by simp; omega),xBe (by omega)]
theorem xWy (hT : T < B) (hB : B ≤ G.length) (h : TrI B T G ks w) (hk : k ∈ ks) (hl : w.length = ks.length) (hw : w.length < 1099511627776) :
    ∃ G' a b p' q',L.icall (.func 68 []) [.ptr T 0,kv2 k] G = some (.tup [.agg [.own false a 0 p'.length 1,.own false b 0 q'.length 1],.bool true],G') ∧
      Canon (xAY (w.take (pos k ks)) (w.drop (pos k ks))) p' q' ∧ B ≤ a ∧ B ≤ b ∧ a ≠ b ∧ G'[a]? = some (.cells false false (bs p')) ∧ G'[b]? = some (.cells false false (bs q')) ∧
      p'.length ≤ w.length ∧ q'.length ≤ w.length ∧ Kt B T G G' := by
  obtain ⟨mv,wv,h1,h2,h3⟩ := h
  have hn := xQL hk
  have hf := xE9 xKz k ks 0
  rw [if_pos hk,Nat.zero_add] at hf
  generalize pos k ks = n at *
  obtain ⟨k1,k2⟩ := k
  have hG := xFB h1
  rcases h2 with ⟨rfl,rfl⟩ | ⟨q,rfl,hq,hqm⟩
  · simp at hn
  rcases h3 with ⟨rfl,rfl⟩ | ⟨p,rfl,hp,hpw⟩
  · simp at hl; omega
  have hGp := xFB hpw
  have hGq := xFB hqm
  have e1 : (w.take n).length = n := by rw [List.length_take]; omega
  have e2 : (w.drop n).length = w.length - n := List.length_drop ..
  obtain ⟨p',q',c1,c2,c3,-,c5⟩ := xIf false (w.take n) (w.drop n) (by omega) (by omega)
  have e3 : (xAI (w.drop n)).length = w.length - n := by rw [xBF]; omega
  have hn2 : (n : Int) ≤ (w.length : Nat) := by omega
  simp only [las,xBc,e1,e2] at c5
  simp only [kv2] at hf ⊢
  refine ⟨(G.modify p xAj).modify p xAj ++ [.cells false false [.int .i64 (k1 : Nat),.int .i64 (k2 : Nat)],.cells false false [.own false (G.length + 2) 0 p'.length 1,.own false (G.length + 3) 0 q'.length 1],.cells false false (bs p'),.cells false false (bs q')],G.length + 2,G.length + 3,p',q',?_,c1,by omega,by omega,by omega,?_,?_,by omega,by omega,?_,?_⟩
  · rw [yBw,a68]
    simp (maxSteps := 30000000) (disch := first | assumption | omega | (simp only [WL,AV.isCell,List.length_modify] <;> omega) | rfl | decide) only [↓reduceIte,WB,xAu,xAc,xAt,xAk,xAj,AV.cells,AV.isCell,xAa,xAd,xAe,WP,xAH,xAA,xBz,xBw,xBn,xAF,xAM,xAJ,WM,W2,xAf,xAg,xAh,Nat.reduceAdd,Nat.reduceSub,Nat.reduceLeDiff,Nat.reduceMul,Int.reduceAdd,Int.reduceSub,Int.reduceMul,Int.reduceLT,Int.reduceLE,Int.reduceEq,Int.reduceToNat,Int.reduceNeg,Nat.reduceEqDiff,Nat.reduceBEq,Nat.reduceLT,xBi,xCr,xDL,xDM,xDN,xDO,xZi,xBe,xCp,xVc,List.length_modify,xFC,xCV,xD2,xD3,xCf,xBX,xBY,List.set_set,h1,hf,hqm,hpw,hn2,c5]
  · rw [xCr (by simp)]; rfl
  · rw [xCr (by simp)]; rfl
  · simp
  · intro b hb ht
    rw [xBi (by simp; omega),xVc (by omega),xVc (by omega)]
end
def nx (M : Ma) (s i : Nat) : Nat := (M.next.getD s []).getD i 0
def em (M : Ma) (s i : Nat) : Nat := (M.emit.getD s []).getD i 0
theorem Vm.nl {M : Ma} (h : Vm M) {s : Nat} (hs : s < M.next.length) : (M.next.getD s []).length = two M.i := h.rl _ (xA2 hs)
theorem Vm.wl' {M : Ma} (h : Vm M) {s : Nat} (hs : s < M.next.length) : (M.emit.getD s []).length = two M.i := h.wl _ (xA2 (by rw [h.el]; exact hs))
theorem Vm.nx {M : Ma} (h : Vm M) {s i : Nat} (hs : s < M.next.length) (hi : i < two M.i) : nx M s i < M.next.length := h.rb _ (xA2 hs) _ (xA2 (by rw [h.nl hs]; exact hi))
theorem Vm.em {M : Ma} (h : Vm M) {s i : Nat} (hs : s < M.next.length) (hi : i < two M.i) : em M s i < two M.o := h.wb _ (xA2 (by rw [h.el]; exact hs)) _ (xA2 (by rw [h.wl' hs]; exact hi))
def nxo (N : Mo) (t o : Nat) : Nat := (N.next.getD t []).getD o 0
def gv (N : Mo) (t : Nat) : Nat := N.give.getD t 0
theorem Vo.nl {N : Mo} (h : Vo N) {s : Nat} (hs : s < N.next.length) : (N.next.getD s []).length = two N.o := h.rl _ (xA2 hs)
theorem Vo.nx {N : Mo} (h : Vo N) {s i : Nat} (hs : s < N.next.length) (hi : i < two N.o) : nxo N s i < N.next.length := h.rb _ (xA2 hs) _ (xA2 (by rw [h.nl hs]; exact hi))
theorem Vo.gv {N : Mo} (h : Vo N) {s : Nat} (hs : s < N.next.length) : gv N s < two N.i := h.gb _ (xA2 (by rw [h.gl]; exact hs))
theorem xY9 (a b : Nat) : two a * two b = two (a + b) := (Nat.pow_add 2 a b).symm
def lt2 (a i o : Nat) : Nat := i + o * two a
theorem xQN {a b i o : Nat} (h : a + b ≤ 6) (hi : i < two a) (ho : o < two b) : lt2 a i o < two (a + b) ∧ lt2 a i o < 64 ∧ o * two a < 64 := by
  have h1 : (o + 1) * two a ≤ two b * two a := Nat.mul_le_mul_right _ ho
  rw [xY9,Nat.add_mul,Nat.one_mul,Nat.add_comm b a] at h1
  have h2 := (xDf h).1
  unfold lt2
  omega
theorem xUU {a b i o : Nat} (h : a + b ≤ 6) (hi : i < two a) (ho : o < two b) : IntKind.u8.wrap ((o : Int) * 2 ^ min a IntKind.u8.bits) = ((o * two a : Nat) : Int) := by
  have h3 := (xQN h hi ho).2.2
  have e : min a IntKind.u8.bits = a := by show min a 8 = a; omega
  rw [e]
  have e2 : (o : Int) * 2 ^ a = ((o * two a : Nat) : Int) := by
    unfold two
    rw [Int.natCast_mul,Int.natCast_pow]; rfl
  rw [e2]
  exact yAb (by omega)
theorem xXR {a b i o : Nat} (h : a + b ≤ 6) (hi : i < two a) (ho : o < two b) : xEi .or .u8 (i : Int) ((o * two a : Nat) : Int) = ((lt2 a i o : Nat) : Int) := by
  have h3 := xQN h hi ho
  have h4 := (xDf (show a ≤ 6 by omega)).1
  rw [or8 (by omega) (by omega)]
  congr 1
  unfold lt2
  have := Nat.shiftLeft_add_eq_or_of_lt (i := a) (b := i) hi o
  rw [Nat.shiftLeft_eq] at this
  unfold two
  rw [Nat.or_comm,← this,Nat.add_comm]
def xRD (M : Ma) (N : Mo) (c : Nat × Nat) : Nat × Nat := (nx M c.1 (gv N c.2),nxo N c.2 (em M c.1 (gv N c.2)))
def xZa (M : Ma) (N : Mo) (c : Nat × Nat) : Nat := lt2 M.i (gv N c.2) (em M c.1 (gv N c.2))
def cfg (M : Ma) (N : Mo) : Nat → Nat × Nat
  | 0 => (M.s,N.s)
  | n + 1 => xRD M N (cfg M N n)
def xGi (M : Ma) (N : Mo) (n : Nat) : List (Nat × Nat) := (List.range n).map (cfg M N)
def xN0 (M : Ma) (N : Mo) (n : Nat) : List Nat := (List.range n).map fun k => xZa M N (cfg M N k)
theorem xFa (M : Ma) (N : Mo) (n : Nat) : xGi M N (n + 1) = xGi M N n ++ [cfg M N n] := by simp [xGi,List.range_succ]
theorem xUV (M : Ma) (N : Mo) (n : Nat) : xN0 M N (n + 1) = xN0 M N n ++ [xZa M N (cfg M N n)] := by simp [xN0,List.range_succ]
theorem xGx (M : Ma) (N : Mo) (n : Nat) : (xGi M N n).length = n := by simp [xGi]
theorem xGy (M : Ma) (N : Mo) (n : Nat) : (xN0 M N n).length = n := by simp [xN0]
structure Ok2 (M : Ma) (N : Mo) : Prop where
  m : Vm M
  n : Vo N
  i : N.i = M.i
  o : N.o = M.o
theorem xKA {M : Ma} {N : Mo} (h : Ok2 M N) : ∀ k,(cfg M N k).1 < M.next.length ∧ (cfg M N k).2 < N.next.length
  | 0 => ⟨h.m.s,h.n.s⟩
  | k + 1 => by
    have ih := xKA h k
    have h1 := h.n.gv ih.2
    rw [h.i] at h1
    have h2 := h.m.em ih.1 h1
    exact ⟨h.m.nx ih.1 h1,h.n.nx ih.2 (by rw [h.o]; exact h2)⟩
theorem xOO {M : Ma} {N : Mo} (h : Ok2 M N) (n : Nat) : ∀ x ∈ xGi M N n,x.1 < M.next.length ∧ x.2 < N.next.length := by
  intro x hx
  obtain ⟨k,_,rfl⟩ := List.mem_map.1 hx
  exact xKA h k
structure Inv31 (M : Ma) (N : Mo) (G : Heap) (c : Nat × Nat) (ks : List (Nat × Nat)) (w : List Nat) : Prop where
  g0 : G[0]? = some (.cells false false M.cells)
  g1 : G[1]? = some (.cells false false N.cells)
  g2 : G[2]? = some (.cells false false [.sl true 0 [],.sl true 0 []])
  g3 : G[3]? = some (.cells false false [.int .i64 (c.1 : Nat),.int .i64 (c.2 : Nat)])
  tr : TrI 5 4 G ks w
  len : 5 ≤ G.length
theorem TrI.keep {B T : Nat} {G G' : Heap} {ks : List (Nat × Nat)} {w : List Nat} (h : TrI B T G ks w) (hk : ∀ b,b = T ∨ B ≤ b → b < G.length → G'[b]? = G[b]?) : TrI B T G' ks w := by
  obtain ⟨mv,wv,h1,h2,h3⟩ := h
  refine ⟨mv,wv,by rw [hk T (.inl rfl) (xFB h1)]; exact h1,?_,?_⟩
  · rcases h2 with h2 | ⟨q,e,hq,hm⟩
    · exact .inl h2
    · exact .inr ⟨q,e,hq,by rw [hk q (.inr hq) (xFB hm)]; exact hm⟩
  · rcases h3 with h3 | ⟨q,e,hq,hm⟩
    · exact .inl h3
    · exact .inr ⟨q,e,hq,by rw [hk q (.inr hq) (xFB hm)]; exact hm⟩
section
variable {M : Ma} {N : Mo} {G : Heap} {s t : Nat} {ks : List (Nat × Nat)} {w : List Nat}
abbrev F31 : List AV := xPa (.ptr 0 0) (.ptr 1 0) (.ptr 2 0) (.int .i64 0) (.ptr 3 0) (.ptr 4 0)
set_option maxHeartbeats 1000000 in
theorem xRE (hO : Ok2 M N) (h : Inv31 M N G (s,t) ks w) (hs : s < M.next.length) (ht : t < N.next.length) (hk : (s,t) ∉ ks) (hl : w.length = ks.length) (hw : w.length < 1099511627) :
    ∃ G',L.loop xFU xOw ⟨F31,G⟩ = L.loop xFU xOw ⟨F31,G'⟩ ∧ Inv31 M N G' (xRD M N (s,t)) (ks ++ [(s,t)]) (w ++ [xZa M N (s,t)]) := by
  obtain ⟨G1,k1,k2,k3⟩ := xWx (T := 4) (B := 5) (by omega) h.len h.tr hk hl (by omega)
  have g0 := (k3.2 0 (by omega) (by omega)).trans h.g0
  have g1 := (k3.2 1 (by omega) (by omega)).trans h.g1
  have g2 := (k3.2 2 (by omega) (by omega)).trans h.g2
  have g3 := (k3.2 3 (by omega) (by omega)).trans h.g3
  have hlen : 5 ≤ G1.length := by have := h.len; have := k3.1; omega
  have hg3 := h.g3
  obtain ⟨mv,wv,t1,t2,t3⟩ := k2
  have hi : gv N t < two M.i := by have := hO.n.gv ht; rwa [hO.i] at this
  have ho := hO.m.em hs hi
  have hio := hO.m.io
  have l1 := hO.m.nl hs
  have l2 := hO.m.wl' hs
  have l3 := hO.n.nl ht
  have l4 := hO.n.gl
  have l5 := hO.m.el
  rw [hO.o] at l3
  have hsh := xUU hio hi ho
  have hor := xXR hio hi ho
  have hnx : xRD M N (s,t) = (nx M s (gv N t),nxo N t (em M s (gv N t))) := rfl
  have hlc : xZa M N (s,t) = lt2 M.i (gv N t) (em M s (gv N t)) := rfl
  rw [hnx,hlc]
  unfold gv at hi ho hsh hor ⊢
  unfold em at ho hsh hor ⊢
  unfold nx nxo
  generalize hI : N.give.getD t 0 = i at *
  generalize hOo : (M.emit.getD s []).getD i 0 = o at *
  unfold Ma.cells at g0
  unfold Mo.cells at g1
  simp only [kv2] at k1
  have hi0 : ¬ ((M.i : Nat) : Int) < 0 := by omega
  rcases t3 with ⟨rfl,rfl⟩ | ⟨p,rfl,hp,hpw⟩
  · refine ⟨(G1.set 4 (.cells false false [mv,.own false (G1.length + 1) 0 1 1])).set 3 (.cells false false [.int .i64 ((M.next.getD s []).getD i 0 : Nat),.int .i64 ((N.next.getD t []).getD o 0 : Nat)]) ++ [.cells false false [.sl true 0 [],.sl true 0 []],.cells false false (bs [lt2 M.i i o])],?_,⟨?_,?_,?_,?_,?_,?_⟩⟩
    · rw [xSD]
      simp (maxSteps := 30000000) (disch := first | assumption | omega | (simp only [WL,AV.isCell] <;> omega) | rfl | decide) only [↓reduceIte,WB,xAu,xAc,xAt,xAk,xAj,AV.cells,AV.isCell,xAa,xAd,xAe,WP,xAH,xAA,xBz,xBw,xBn,xAF,xAM,xAJ,W2,xAf,xAg,xAh,Nat.reduceAdd,Nat.reduceSub,Nat.reduceLeDiff,Nat.reduceMul,Int.reduceAdd,Int.reduceSub,Int.reduceMul,Int.reduceLT,Int.reduceLE,Int.reduceEq,Int.reduceToNat,Int.reduceNeg,Nat.reduceEqDiff,Nat.reduceBEq,Nat.reduceLT,xBi,xCr,xDL,xDM,xDN,xDO,xBe,xCp,xAZ,xA0,xD1,xFc,List.length_map,List.set_set,xL8,xPb,hg3,k1,g0,g1,g2,g3,t1,l1,l2,l3,l4,l5,hI,hOo,hi,ho,hs,ht,hsh,hor,hi0]
      rfl
    · rw [xBi (by simp; omega),xBe (by omega),xBe (by omega),g0]; rfl
    · rw [xBi (by simp; omega),xBe (by omega),xBe (by omega),g1]; rfl
    · rw [xBi (by simp; omega),xBe (by omega),xBe (by omega),g2]
    · rw [xBi (by simp; omega),xCp (by simp; omega)]
    · refine ⟨mv,.own false (G1.length + 1) 0 1 1,?_,?_,.inr ⟨G1.length + 1,rfl,by omega,?_⟩⟩
      · rw [xBi (by simp; omega),xBe (by omega),xCp (by omega)]
      · rcases t2 with t2 | ⟨q,e,hq,hm⟩
        · exact .inl t2
        · have := xFB hm
          exact .inr ⟨q,e,hq,by rw [xBi (by simp; omega),xBe (by omega),xBe (by omega)]; exact hm⟩
      · rw [xCr (by simp)]; rfl
    · simp; omega
  · have hGp := xFB hpw
    have hp4 : p ≠ 4 := by omega
    have hp3 : p ≠ 3 := by omega
    refine ⟨((G1.set p .dead).set 4 (.cells false false [mv,.own false (G1.length + 1) 0 (w.length + 1) 1])).set 3 (.cells false false [.int .i64 ((M.next.getD s []).getD i 0 : Nat),.int .i64 ((N.next.getD t []).getD o 0 : Nat)]) ++ [.cells false false [.sl true 0 [],.sl true 0 []],.cells false false (bs (w ++ [lt2 M.i i o]))],?_,⟨?_,?_,?_,?_,?_,?_⟩⟩
    · rw [xSD]
      simp (maxSteps := 30000000) (disch := first | assumption | omega | (simp only [WL,AV.isCell] <;> omega) | rfl | decide) only [↓reduceIte,WB,xAu,xAc,xAt,xAk,xAj,AV.cells,AV.isCell,xAa,xAd,xAe,WP,xAH,xAA,xBz,xBw,xBn,xAF,xAM,xAJ,W2,xAf,xAg,xAh,Nat.reduceAdd,Nat.reduceSub,Nat.reduceLeDiff,Nat.reduceMul,Int.reduceAdd,Int.reduceSub,Int.reduceMul,Int.reduceLT,Int.reduceLE,Int.reduceEq,Int.reduceToNat,Int.reduceNeg,Nat.reduceEqDiff,Nat.reduceBEq,Nat.reduceLT,xBi,xCr,xDL,xDM,xDN,xDO,xBe,xCp,xAZ,xA0,xD1,xFc,List.length_map,List.set_set,xL8,xPb,hg3,k1,g0,g1,g2,g3,t1,hpw,l1,l2,l3,l4,l5,hI,hOo,hi,ho,hs,ht,hsh,hor,hi0]
      rw [xMu]; rfl
    · rw [xBi (by simp; omega),xBe (by omega),xBe (by omega),xBe (by omega),g0]; rfl
    · rw [xBi (by simp; omega),xBe (by omega),xBe (by omega),xBe (by omega),g1]; rfl
    · rw [xBi (by simp; omega),xBe (by omega),xBe (by omega),xBe (by omega),g2]
    · rw [xBi (by simp; omega),xCp (by simp; omega)]
    · refine ⟨mv,.own false (G1.length + 1) 0 (w.length + 1) 1,?_,?_,.inr ⟨G1.length + 1,by simp,by omega,?_⟩⟩
      · rw [xBi (by simp; omega),xBe (by omega),xCp (by simp; omega)]
      · rcases t2 with t2 | ⟨q,e,hq,hm⟩
        · exact .inl t2
        · have := xFB hm
          exact .inr ⟨q,e,hq,by rw [xBi (by simp; omega),xBe (by omega),xBe (by omega),xBe (by rintro rfl; rw [hpw] at hm; cases hm)]; exact hm⟩
      · rw [xCr (by simp)]; rfl
    · simp; omega
theorem xWz (hO : Ok2 M N) (h : Inv31 M N G (s,t) ks w) (hs : s < M.next.length) (ht : t < N.next.length) (hk : (s,t) ∈ ks) (hl : w.length = ks.length) (hw : w.length < 1099511627) :
    ∃ G' p' q' a b,L.loop xFU xOw ⟨F31,G⟩ = some (.ret,⟨F31,G'⟩) ∧ G'[2]? = some (.cells false false [.own false a 0 p'.length 1,.own false b 0 q'.length 1]) ∧ a ≠ b ∧ 2 < a ∧ 2 < b ∧
      G'[a]? = some (.cells false false (bs p')) ∧ G'[b]? = some (.cells false false (bs q')) ∧ Canon (xAY (w.take (pos (s,t) ks)) (w.drop (pos (s,t) ks))) p' q' ∧ p'.length ≤ w.length ∧ q'.length ≤ w.length := by
  obtain ⟨G1,a,b,p',q',k1,k2,k3,k4,k5,k6,k7,k8,k9,k10⟩ := xWy (T := 4) (B := 5) (by omega) h.len h.tr hk hl (by omega)
  have g2 := (k10.2 2 (by omega) (by omega)).trans h.g2
  have hlen : 5 ≤ G1.length := by have := h.len; have := k10.1; omega
  have hg3 := h.g3
  have ha := xFB k6
  have hb := xFB k7
  simp only [kv2] at k1
  refine ⟨G1.set 2 (.cells false false [.own false a 0 p'.length 1,.own false b 0 q'.length 1]) ++ [.cells false false [.own false a 0 p'.length 1,.own false b 0 q'.length 1]],p',q',a,b,?_,?_,k5,by omega,by omega,?_,?_,k2,k8,k9⟩
  · rw [xSD]
    simp (maxSteps := 30000000) (disch := first | assumption | omega | (simp only [WL,AV.isCell] <;> omega) | rfl | decide) only [↓reduceIte,WB,xAu,xAc,xAt,xAk,xAj,AV.cells,AV.isCell,xAa,xAd,xAe,WP,xAH,xAA,xBz,xBw,xBn,xAF,xAM,xAJ,W2,xAf,xAg,xAh,Nat.reduceAdd,Nat.reduceSub,Nat.reduceLeDiff,Nat.reduceMul,Int.reduceAdd,Int.reduceSub,Int.reduceMul,Int.reduceLT,Int.reduceLE,Int.reduceEq,Int.reduceToNat,Int.reduceNeg,Nat.reduceEqDiff,Nat.reduceBEq,Nat.reduceLT,xBi,xCr,xDL,xDM,xDN,xDO,xBe,xCp,xAZ,xA0,xD1,xFc,List.length_map,List.set_set,xL8,xPb,hg3,k1,g2]
  · rw [xBi (by simp; omega),xCp (by omega)]
  · rw [xBi (by simp; omega),xBe (by omega),k6]
  · rw [xBi (by simp; omega),xBe (by omega),k7]
end
def EndP (M : Ma) (N : Mo) (n : Nat) : Prop := (xGi M N n).Nodup ∧ cfg M N n ∈ xGi M N n
theorem xRF {M : Ma} {N : Mo} {n : Nat} (h : (xGi M N n).Nodup) (hn : cfg M N n ∉ xGi M N n) : (xGi M N (n + 1)).Nodup := by
  rw [xFa,List.nodup_append]
  refine ⟨h,by simp,fun a ha b hb => ?_⟩
  simp only [List.mem_singleton] at hb
  subst hb
  rintro rfl
  exact hn ha
theorem xN1 {M : Ma} {N : Mo} : ∀ {n k : Nat},k ≤ n → (xGi M N n).Nodup → (xGi M N k).Nodup
  | 0,k,h,hd => by
    obtain rfl : k = 0 := by omega
    exact hd
  | n + 1,k,h,hd => by
    by_cases e : k = n + 1
    · subst e; exact hd
    · rw [xFa,List.nodup_append] at hd
      exact xN1 (by omega) hd.1
theorem EndP.uniq {M : Ma} {N : Mo} {n k : Nat} (h : EndP M N n) (h2 : EndP M N k) : n = k := by
  have key : ∀ {n k : Nat},EndP M N n → EndP M N k → ¬ n < k := by
    intro n k h h2 hlt
    have := xN1 (show n + 1 ≤ k by omega) h2.1
    rw [xFa,List.nodup_append] at this
    exact this.2.2 _ h.2 _ (by simp) rfl
  have h1 := key h h2
  have h3 := key h2 h
  omega
section
variable {M : Ma} {N : Mo}
theorem xWA (hO : Ok2 M N) : ∀ e n G,n + e = M.next.length * N.next.length + 1 → (xGi M N n).Nodup → Inv31 M N G (cfg M N n) (xGi M N n) (xN0 M N n) →
    ∃ n0 G' p' q' a b,EndP M N n0 ∧ L.loop xFU xOw ⟨F31,G⟩ = some (.ret,⟨F31,G'⟩) ∧ G'[2]? = some (.cells false false [.own false a 0 p'.length 1,.own false b 0 q'.length 1]) ∧ a ≠ b ∧ 2 < a ∧ 2 < b ∧
      G'[a]? = some (.cells false false (bs p')) ∧ G'[b]? = some (.cells false false (bs q')) ∧ Canon (xAY ((xN0 M N n0).take (pos (cfg M N n0) (xGi M N n0))) ((xN0 M N n0).drop (pos (cfg M N n0) (xGi M N n0)))) p' q' ∧ p'.length ≤ n0 ∧ q'.length ≤ n0 := by
  intro e
  induction e with
  | zero =>
    intro n G h hd hI
    have := xCW hd (xOO hO n)
    rw [xGx] at this
    omega
  | succ e ih =>
    intro n G h hd hI
    have hc := xKA hO n
    have hle := xCW hd (xOO hO n)
    rw [xGx] at hle
    have hm := Nat.mul_le_mul hO.m.n9 hO.n.n9
    have hll : (xN0 M N n).length = (xGi M N n).length := by rw [xGy,xGx]
    by_cases hk : cfg M N n ∈ xGi M N n
    · obtain ⟨G',p',q',a,b,k1,k2,k3,k4,k5,k6,k7,k8,k9,k10⟩ := xWz (s := (cfg M N n).1) (t := (cfg M N n).2) hO hI hc.1 hc.2 hk hll (by rw [xGy]; omega)
      rw [xGy] at k9 k10
      exact ⟨n,G',p',q',a,b,⟨hd,hk⟩,k1,k2,k3,k4,k5,k6,k7,k8,k9,k10⟩
    · obtain ⟨G',k1,k2⟩ := xRE (s := (cfg M N n).1) (t := (cfg M N n).2) hO hI hc.1 hc.2 hk hll (by rw [xGy]; omega)
      rw [k1]
      refine ih (n + 1) G' (by omega) (xRF hd hk) ?_
      rw [xFa,xUV]
      exact k2
theorem xUW (hO : Ok2 M N) : ∃ n0 p' q',EndP M N n0 ∧ Canon (xAY ((xN0 M N n0).take (pos (cfg M N n0) (xGi M N n0))) ((xN0 M N n0).drop (pos (cfg M N n0) (xGi M N n0)))) p' q' ∧ p'.length ≤ n0 ∧ q'.length ≤ n0 ∧
    L.pcall 31 [M.av,N.av] = some (.tup [las false false p' q',.int .i64 0]) := by
  have hc1 := xKr hO.m
  have hc2 := xRB hO.n
  have hi := hO.i
  have ho := hO.o
  obtain ⟨n0,G',p',q',a,b,k0,k1,k2,k3,k4,k5,k6,k7,k8,k9,k10⟩ := xWA hO (M.next.length * N.next.length + 1) 0
    [.cells false false M.cells,.cells false false N.cells,.cells false false [.sl true 0 [],.sl true 0 []],.cells false false [.int .i64 (M.s : Nat),.int .i64 (N.s : Nat)],.cells false false [.nilm,.sl true 0 []]]
    (by omega) (by simp [xGi]) ⟨rfl,rfl,rfl,rfl,⟨.nilm,.sl true 0 [],rfl,.inl ⟨rfl,rfl⟩,.inl ⟨rfl,rfl⟩⟩,by simp⟩
  refine ⟨n0,p',q',k0,k8,k9,k10,?_⟩
  unfold Ma.av at hc1 ⊢
  unfold Mo.av at hc2 ⊢
  unfold Ma.cells at hc1 k1 ⊢
  unfold Mo.cells at hc2 k1 ⊢
  rw [hi,ho] at hc2 k1 ⊢
  rw [yA4,a31,xAl]
  simp (maxSteps := 30000000) (disch := first | assumption | omega | (simp only [WL,AV.isCell] <;> omega) | rfl | decide) only [↓reduceIte,WB,xAu,xAc,xAt,xAk,xAj,AV.cells,AV.isCell,xAa,xAd,xAe,WP,xAH,xAA,xBz,xBw,xBn,xAF,xAM,xAJ,W2,xAf,xAg,xAh,Nat.reduceAdd,Nat.reduceSub,Nat.reduceLeDiff,Nat.reduceMul,Int.reduceAdd,Int.reduceSub,Int.reduceMul,Int.reduceLT,Int.reduceLE,Int.reduceEq,Int.reduceToNat,Int.reduceNeg,Nat.reduceEqDiff,Nat.reduceBEq,Nat.reduceLT,xBi,xCr,xDL,xDM,xDN,xDO,xBe,xCp,List.length_map,xPb,hc1,hc2,k1,k2,k6,k7]
theorem xUX {m : Mf} {n : Nf} (hS : Sm m) (h : xOI m ≠ 0) : L.pcall 31 [m.av,n.av] = some (.tup [xNZ,.int .i64 (xOI m)]) := by
  have hc := xLi hS
  generalize xOI m = e at *
  unfold Mf.av at hc ⊢
  unfold Nf.av
  unfold Mf.cells at hc ⊢
  unfold Nf.cells
  rw [yA4,a31,xAl]
  simp (maxSteps := 30000000) (disch := first | assumption | omega | (simp only [WL,AV.isCell] <;> omega) | rfl | decide) only [↓reduceIte,WB,xAu,xAc,xAt,xAk,xAj,AV.cells,AV.isCell,xAa,xAd,xAe,WP,xAH,xAA,xBz,xBw,xBn,xAF,xAM,xAJ,W2,xAf,xAg,xAh,Nat.reduceAdd,Nat.reduceSub,Nat.reduceLeDiff,Nat.reduceMul,Int.reduceAdd,Int.reduceSub,Int.reduceMul,Int.reduceLT,Int.reduceLE,Int.reduceEq,Int.reduceToNat,Int.reduceNeg,Nat.reduceEqDiff,Nat.reduceBEq,Nat.reduceLT,xBi,xCr,xDL,xDM,xDN,xDO,xBe,xCp,List.length_map,hc,h]
theorem xUY {m : Mf} {n : Nf} (hS : Sm m) (hN : SmN n) (h : xOI m = 0) (h2 : xQz n ≠ 0) : L.pcall 31 [m.av,n.av] = some (.tup [xNZ,.int .i64 (xQz n)]) := by
  have hc := xLi hS
  have hc2 := xOJ hN
  unfold Nf.av Nf.cells at hc2
  rw [h] at hc
  generalize xQz n = e at *
  unfold Mf.av at hc ⊢
  unfold Nf.av
  unfold Mf.cells at hc ⊢
  unfold Nf.cells
  rw [yA4,a31,xAl]
  simp (maxSteps := 30000000) (disch := first | assumption | omega | (simp only [WL,AV.isCell] <;> omega) | rfl | decide) only [↓reduceIte,WB,xAu,xAc,xAt,xAk,xAj,AV.cells,AV.isCell,xAa,xAd,xAe,WP,xAH,xAA,xBz,xBw,xBn,xAF,xAM,xAJ,W2,xAf,xAg,xAh,Nat.reduceAdd,Nat.reduceSub,Nat.reduceLeDiff,Nat.reduceMul,Int.reduceAdd,Int.reduceSub,Int.reduceMul,Int.reduceLT,Int.reduceLE,Int.reduceEq,Int.reduceToNat,Int.reduceNeg,Nat.reduceEqDiff,Nat.reduceBEq,Nat.reduceLT,xBi,xCr,xDL,xDM,xDN,xDO,xBe,xCp,List.length_map,hc,hc2,h2]
theorem xUZ {m : Mf} {n : Nf} (hS : Sm m) (hN : SmN n) (h : xOI m = 0) (h2 : xQz n = 0) (h3 : ¬ (m.i = n.i ∧ m.o = n.o)) : L.pcall 31 [m.av,n.av] = some (.tup [xNZ,.int .i64 16]) := by
  have hc := xLi hS
  have hc2 := xOJ hN
  unfold Nf.av Nf.cells at hc2
  rw [h] at hc
  rw [h2] at hc2
  unfold Mf.av at hc ⊢
  unfold Nf.av
  unfold Mf.cells at hc ⊢
  unfold Nf.cells
  rw [yA4,a31,xAl]
  by_cases c : m.i = n.i
  · have c' : ((m.o : Int) = n.o) = False := eq_false (fun e => h3 ⟨c,e⟩)
    rw [c] at hc ⊢
    simp (maxSteps := 30000000) (disch := first | assumption | omega | (simp only [WL,AV.isCell] <;> omega) | rfl | decide) only [↓reduceIte,WB,xAu,xAc,xAt,xAk,xAj,AV.cells,AV.isCell,xAa,xAd,xAe,WP,xAH,xAA,xBz,xBw,xBn,xAF,xAM,xAJ,W2,xAf,xAg,xAh,Nat.reduceAdd,Nat.reduceSub,Nat.reduceLeDiff,Nat.reduceMul,Int.reduceAdd,Int.reduceSub,Int.reduceMul,Int.reduceLT,Int.reduceLE,Int.reduceEq,Int.reduceToNat,Int.reduceNeg,Nat.reduceEqDiff,Nat.reduceBEq,Nat.reduceLT,xBi,xCr,xDL,xDM,xDN,xDO,xBe,xCp,List.length_map,hc,hc2,c']
  · simp (maxSteps := 30000000) (disch := first | assumption | omega | (simp only [WL,AV.isCell] <;> omega) | rfl | decide) only [↓reduceIte,WB,xAu,xAc,xAt,xAk,xAj,AV.cells,AV.isCell,xAa,xAd,xAe,WP,xAH,xAA,xBz,xBw,xBn,xAF,xAM,xAJ,W2,xAf,xAg,xAh,Nat.reduceAdd,Nat.reduceSub,Nat.reduceLeDiff,Nat.reduceMul,Int.reduceAdd,Int.reduceSub,Int.reduceMul,Int.reduceLT,Int.reduceLE,Int.reduceEq,Int.reduceToNat,Int.reduceNeg,Nat.reduceEqDiff,Nat.reduceBEq,Nat.reduceLT,xBi,xCr,xDL,xDM,xDN,xDO,xBe,xCp,List.length_map,hc,hc2,c]
end
section
variable {H : Heap} {fv : AV}
theorem yB5 {z : Bool} {l : List Nat} {P : Nat → Bool} (hl : l.length < 9223372036854775807) (hb : ∀ x ∈ l,x < 256) (hf : ∀ s,s < 256 → L.icall fv [.int .u8 (s : Nat)] H = some (.bool (P s),H)) : ∀ e i,i + e = l.length →
    ∃ j : Nat,L.loop xMq xVX ⟨xJd (.sl z l.length (bs l)) fv (.int .i64 0) (.int .i64 (l.length : Nat)) (.int .i64 (i : Nat)),H⟩ =
      some (if (l.drop i).any P = true then (.ret,⟨xJd (.sl z l.length (bs l)) fv (.int .i64 (j : Nat)) (.int .i64 (l.length : Nat)) (.int .i64 (j : Nat)),H⟩)
        else (.exit 0,⟨xJd (.sl z l.length (bs l)) fv (.int .i64 0) (.int .i64 (l.length : Nat)) (.int .i64 (l.length : Nat)),H⟩)) := by
  intro e
  induction e with
  | zero =>
    intro i h
    obtain rfl : i = l.length := by omega
    refine ⟨0,?_⟩
    rw [if_neg (by rw [List.drop_length]; simp),xSR]
    simp (maxSteps := 30000000) (disch := first | assumption | omega | (simp only [WL,AV.isCell] <;> omega) | rfl | decide) only [↓reduceIte,WB,xAu,xAc,xAt,xAk,xAj,AV.cells,AV.isCell,xAa,xAd,xAe,WP,xAH,xAA,xBz,xBw,xBn,xAF,xAM,xAJ,W2,xAf,xAg,xAh,Nat.reduceAdd,Nat.reduceSub,Nat.reduceLeDiff,Nat.reduceMul,Int.reduceAdd,Int.reduceSub,Int.reduceMul,Int.reduceLT,Int.reduceLE,Int.reduceEq,Int.reduceToNat,Int.reduceNeg,Nat.reduceEqDiff,Nat.reduceBEq,Nat.reduceLT,xBi,xCr,xDL,xDM,xDN,xDO,xBe,xCp,xAZ,xA0,xD1,xFc,List.length_map,List.set_set,xJc,xJe]
  | succ e ih =>
    intro i h
    have hlt : (i : Int) < (l.length : Nat) := by omega
    obtain ⟨j,ih'⟩ := ih (i + 1) (by omega)
    have hp := hf (l.getD i 0) (hb _ (xA2 (by omega)))
    rw [xAT (a := (0 : Nat)) (by omega : i < l.length),List.any_cons]
    cases c : P (l.getD i 0) with
    | true =>
      rw [c] at hp
      refine ⟨i,?_⟩
      rw [Bool.true_or,if_pos rfl,xSR]
      simp (maxSteps := 30000000) (disch := first | assumption | omega | (simp only [WL,AV.isCell] <;> omega) | rfl | decide) only [↓reduceIte,WB,xAu,xAc,xAt,xAk,xAj,AV.cells,AV.isCell,xAa,xAd,xAe,WP,xAH,xAA,xBz,xBw,xBn,xAF,xAM,xAJ,W2,xAf,xAg,xAh,Nat.reduceAdd,Nat.reduceSub,Nat.reduceLeDiff,Nat.reduceMul,Int.reduceAdd,Int.reduceSub,Int.reduceMul,Int.reduceLT,Int.reduceLE,Int.reduceEq,Int.reduceToNat,Int.reduceNeg,Nat.reduceEqDiff,Nat.reduceBEq,Nat.reduceLT,xBi,xCr,xDL,xDM,xDN,xDO,xBe,xCp,xAZ,xA0,xD1,xFc,List.length_map,List.set_set,xJc,xJe,hlt,hp]
    | false =>
      rw [c] at hp
      rw [Bool.false_or]
      refine ⟨j,?_⟩
      rw [xSR]
      by_cases e : (l.drop (i + 1)).any P = true
      · rw [if_pos e] at ih' ⊢
        simp (maxSteps := 30000000) (disch := first | assumption | omega | (simp only [WL,AV.isCell] <;> omega) | rfl | decide) only [↓reduceIte,WB,xAu,xAc,xAt,xAk,xAj,AV.cells,AV.isCell,xAa,xAd,xAe,WP,xAH,xAA,xBz,xBw,xBn,xAF,xAM,xAJ,W2,xAf,xAg,xAh,Nat.reduceAdd,Nat.reduceSub,Nat.reduceLeDiff,Nat.reduceMul,Int.reduceAdd,Int.reduceSub,Int.reduceMul,Int.reduceLT,Int.reduceLE,Int.reduceEq,Int.reduceToNat,Int.reduceNeg,Nat.reduceEqDiff,Nat.reduceBEq,Nat.reduceLT,xBi,xCr,xDL,xDM,xDN,xDO,xBe,xCp,xAZ,xA0,xD1,xFc,List.length_map,List.set_set,xJc,xJe,hlt,hp,ih']
      · rw [if_neg e] at ih' ⊢
        simp (maxSteps := 30000000) (disch := first | assumption | omega | (simp only [WL,AV.isCell] <;> omega) | rfl | decide) only [↓reduceIte,WB,xAu,xAc,xAt,xAk,xAj,AV.cells,AV.isCell,xAa,xAd,xAe,WP,xAH,xAA,xBz,xBw,xBn,xAF,xAM,xAJ,W2,xAf,xAg,xAh,Nat.reduceAdd,Nat.reduceSub,Nat.reduceLeDiff,Nat.reduceMul,Int.reduceAdd,Int.reduceSub,Int.reduceMul,Int.reduceLT,Int.reduceLE,Int.reduceEq,Int.reduceToNat,Int.reduceNeg,Nat.reduceEqDiff,Nat.reduceBEq,Nat.reduceLT,xBi,xCr,xDL,xDM,xDN,xDO,xBe,xCp,xAZ,xA0,xD1,xFc,List.length_map,List.set_set,xJc,xJe,hlt,hp,ih']
theorem xZb {z : Bool} {l : List Nat} {P : Nat → Bool} (hl : l.length < 9223372036854775807) (hb : ∀ x ∈ l,x < 256) (hf : ∀ s,s < 256 → L.icall fv [.int .u8 (s : Nat)] H = some (.bool (P s),H)) :
    ∃ j : Int,L.icall (.func 85 []) [.sl z l.length (bs l),fv] H = some (.int .i64 j,H) ∧ (if l.any P = true then 0 ≤ j else j < 0) := by
  obtain ⟨j,h⟩ := yB5 (z := z) hl hb hf l.length 0 (by omega)
  simp only [Int.natCast_zero,List.drop_zero] at h
  by_cases c : l.any P = true
  · rw [if_pos c] at h
    refine ⟨j,?_,by rw [if_pos c]; omega⟩
    rw [yCk,a85]
    simp (maxSteps := 30000000) (disch := first | assumption | omega | (simp only [WL,AV.isCell] <;> omega) | rfl | decide) only [↓reduceIte,WB,xAu,xAc,xAt,xAk,xAj,AV.cells,AV.isCell,xAa,xAd,xAe,WP,xAH,xAA,xBz,xBw,xBn,xAF,xAM,xAJ,W2,xAf,xAg,xAh,Nat.reduceAdd,Nat.reduceSub,Nat.reduceLeDiff,Nat.reduceMul,Int.reduceAdd,Int.reduceSub,Int.reduceMul,Int.reduceLT,Int.reduceLE,Int.reduceEq,Int.reduceToNat,Int.reduceNeg,Nat.reduceEqDiff,Nat.reduceBEq,Nat.reduceLT,xBi,xCr,xDL,xDM,xDN,xDO,xBe,xCp,xAZ,xA0,xD1,xFc,List.length_map,List.set_set,xJe,h]
  · rw [if_neg c] at h
    refine ⟨-1,?_,by rw [if_neg c]; omega⟩
    rw [yCk,a85]
    simp (maxSteps := 30000000) (disch := first | assumption | omega | (simp only [WL,AV.isCell] <;> omega) | rfl | decide) only [↓reduceIte,WB,xAu,xAc,xAt,xAk,xAj,AV.cells,AV.isCell,xAa,xAd,xAe,WP,xAH,xAA,xBz,xBw,xBn,xAF,xAM,xAJ,W2,xAf,xAg,xAh,Nat.reduceAdd,Nat.reduceSub,Nat.reduceLeDiff,Nat.reduceMul,Int.reduceAdd,Int.reduceSub,Int.reduceMul,Int.reduceLT,Int.reduceLE,Int.reduceEq,Int.reduceToNat,Int.reduceNeg,Nat.reduceEqDiff,Nat.reduceBEq,Nat.reduceLT,xBi,xCr,xDL,xDM,xDN,xDO,xBe,xCp,xAZ,xA0,xD1,xFc,List.length_map,List.set_set,xJe,h]
theorem yB6 {z : Bool} {l : List Nat} {P : Nat → Bool} (hl : l.length < 9223372036854775807) (hb : ∀ x ∈ l,x < 256) (hf : ∀ s,s < 256 → L.icall fv [.int .u8 (s : Nat)] H = some (.bool (P s),H)) :
    L.icall (.func 52 []) [.sl z l.length (bs l),fv] H = some (.bool (l.any P),H) := by
  obtain ⟨j,h,hj⟩ := xZb (z := z) hl hb hf
  rw [yCE,a52]
  cases c : l.any P with
  | true =>
    rw [if_pos c] at hj
    simp (maxSteps := 30000000) (disch := first | assumption | omega | (simp only [WL,AV.isCell] <;> omega) | rfl | decide) only [↓reduceIte,WB,xAu,xAc,xAt,xAk,xAj,AV.cells,AV.isCell,xAa,xAd,xAe,WP,xAH,xAA,xBz,xBw,xBn,xAF,xAM,xAJ,W2,xAf,xAg,xAh,Nat.reduceAdd,Nat.reduceSub,Nat.reduceLeDiff,Nat.reduceMul,Int.reduceAdd,Int.reduceSub,Int.reduceMul,Int.reduceLT,Int.reduceLE,Int.reduceEq,Int.reduceToNat,Int.reduceNeg,Nat.reduceEqDiff,Nat.reduceBEq,Nat.reduceLT,xBi,xCr,xDL,xDM,xDN,xDO,xBe,xCp,xAZ,xA0,xD1,xFc,List.length_map,List.set_set,h,hj]
  | false =>
    rw [if_neg (by simp [c])] at hj
    have hj' : ¬ 0 ≤ j := by omega
    simp (maxSteps := 30000000) (disch := first | assumption | omega | (simp only [WL,AV.isCell] <;> omega) | rfl | decide) only [↓reduceIte,WB,xAu,xAc,xAt,xAk,xAj,AV.cells,AV.isCell,xAa,xAd,xAe,WP,xAH,xAA,xBz,xBw,xBn,xAF,xAM,xAJ,W2,xAf,xAg,xAh,Nat.reduceAdd,Nat.reduceSub,Nat.reduceLeDiff,Nat.reduceMul,Int.reduceAdd,Int.reduceSub,Int.reduceMul,Int.reduceLT,Int.reduceLE,Int.reduceEq,Int.reduceToNat,Int.reduceNeg,Nat.reduceEqDiff,Nat.reduceBEq,Nat.reduceLT,xBi,xCr,xDL,xDM,xDN,xDO,xBe,xCp,xAZ,xA0,xD1,xFc,List.length_map,List.set_set,h,hj']
end
section
variable {M : Ma} {G : Heap} {ov sv : AV} {o st w : List Nat} {zw : Bool}
end
def it {σ : Type} (f : σ → σ) (c : σ) : Nat → σ
  | 0 => c
  | n + 1 => f (it f c n)
def its {σ : Type} (f : σ → σ) (c : σ) (n : Nat) : List σ := (List.range n).map (it f c)
def lts {σ : Type} (f : σ → σ) (g : σ → Nat) (c : σ) (n : Nat) : List Nat := (List.range n).map fun k => g (it f c k)
section
variable {σ : Type} {f : σ → σ} {g : σ → Nat} {c : σ}
theorem xQO (n : Nat) : its f c (n + 1) = its f c n ++ [it f c n] := by simp [its,List.range_succ]
theorem xWB (n : Nat) : lts f g c (n + 1) = lts f g c n ++ [g (it f c n)] := by simp [lts,List.range_succ]
theorem xIm (n : Nat) : (its f c n).length = n := by simp [its]
theorem xFD (n : Nat) : (lts f g c n).length = n := by simp [lts]
theorem yAR {n k : Nat} (d : σ) (h : k < n) : (its f c n).getD k d = it f c k := by
  simp [its,List.getD,h]
theorem xXS {n k : Nat} (h : k < n) : (lts f g c n).getD k 0 = g (it f c k) := by
  simp [lts,List.getD,h]
def yC0 (f : σ → σ) (c : σ) (n : Nat) : Prop := (its f c n).Nodup ∧ it f c n ∈ its f c n
theorem xU0 {n : Nat} (h : (its f c n).Nodup) (hn : it f c n ∉ its f c n) : (its f c (n + 1)).Nodup := by
  rw [xQO,List.nodup_append]
  refine ⟨h,by simp,fun a ha b hb => ?_⟩
  simp only [List.mem_singleton] at hb
  subst hb
  rintro rfl
  exact hn ha
theorem xXT (a b : Nat) : it f c (a + b) = it f (it f c a) b := by
  induction b with
  | zero => rfl
  | succ b ih => rw [Nat.add_succ,it,ih]; rfl
theorem yAS {k d : Nat} (h : it f c (k + d) = it f c k) : ∀ t,it f c (k + d + t) = it f c (k + t) := by
  intro t
  rw [xXT (k + d) t,h,← xXT]
theorem yAT {k d : Nat} (hd : 0 < d) (h : it f c (k + d) = it f c k) (t : Nat) : it f c (k + t) = it f c (k + t % d) := by
  have key : ∀ m t,it f c (k + (t + m * d)) = it f c (k + t) := by
    intro m
    induction m with
    | zero => intro t; simp
    | succ m ih =>
      intro t
      have := yAS h (t + m * d)
      rw [show k + (t + (m + 1) * d) = k + d + (t + m * d) by rw [Nat.add_mul]; omega,this,ih]
  have := key (t / d) (t % d)
  rw [show t % d + t / d * d = t by rw [Nat.mul_comm]; exact Nat.mod_add_div t d] at this
  exact this
variable [DecidableEq σ]
theorem xU1 {n : Nat} (h : it f c n ∈ its f c n) (j : Nat) : xAY ((lts f g c n).take (pos (it f c n) (its f c n))) ((lts f g c n).drop (pos (it f c n) (its f c n))) j = g (it f c j) := by
  have hp := xQL h
  rw [xIm] at hp
  have ha := xXQ (d := c) h
  rw [yAR c hp] at ha
  generalize pos (it f c n) (its f c n) = k at *
  have e1 : ((lts f g c n).take k).length = k := by rw [List.length_take,xFD]; omega
  have e2 : ((lts f g c n).drop k).length = n - k := by rw [List.length_drop,xFD]
  have hper : it f c (k + (n - k)) = it f c k := by rw [show k + (n - k) = n by omega,ha]
  by_cases hj : j < k
  · rw [xD0 (by omega),xE4 hj,xXS (by omega)]
  · rw [xBd (by omega),xBZ (by omega),e1,e2,xNJ,xXS]
    · have := yAT (f := f) (c := c) (by omega) hper (j - k)
      rw [← this,show k + (j - k) = j by omega]
    · have := Nat.mod_lt (j - k) (show 0 < n - k by omega)
      omega
end
theorem yB7 {v b x : Nat} {H : Heap} (hv : v ≤ 6) (hx : x < 256) (h : H[b]? = some (.cells false false [.int .i64 (v : Nat)])) : L.icall (.func 80 [.ptr b 0]) [.int .u8 (x : Nat)] H = some (.bool (decide (two v ≤ x)),H) := by
  have hsi := xC9 hv
  have hi0 : ¬ ((v : Nat) : Int) < 0 := by omega
  rw [yCQ,a80]
  by_cases c : two v ≤ x
  · have c' : ((two v : Nat) : Int) ≤ (x : Nat) := by omega
    rw [decide_eq_true c]
    simp (maxSteps := 30000000) (disch := first | assumption | omega | (simp only [WL,AV.isCell] <;> omega) | rfl | decide) only [↓reduceIte,WB,xAu,xAc,xAt,xAk,xAj,AV.cells,AV.isCell,xAa,xAd,xAe,WP,xAH,xAA,xBz,xBw,xBn,xAF,xAM,xAJ,W2,xAf,xAg,xAh,Nat.reduceAdd,Nat.reduceSub,Nat.reduceLeDiff,Nat.reduceMul,Int.reduceAdd,Int.reduceSub,Int.reduceMul,Int.reduceLT,Int.reduceLE,Int.reduceEq,Int.reduceToNat,Int.reduceNeg,Nat.reduceEqDiff,Nat.reduceBEq,Nat.reduceLT,xBi,xCr,xDL,xDM,xDN,xDO,xBe,xCp,xAZ,xA0,xD1,xFc,List.length_map,List.set_set,h,hsi,hi0,c']
  · have c' : ¬ ((two v : Nat) : Int) ≤ (x : Nat) := by omega
    rw [decide_eq_false c]
    simp (maxSteps := 30000000) (disch := first | assumption | omega | (simp only [WL,AV.isCell] <;> omega) | rfl | decide) only [↓reduceIte,WB,xAu,xAc,xAt,xAk,xAj,AV.cells,AV.isCell,xAa,xAd,xAe,WP,xAH,xAA,xBz,xBw,xBn,xAF,xAM,xAJ,W2,xAf,xAg,xAh,Nat.reduceAdd,Nat.reduceSub,Nat.reduceLeDiff,Nat.reduceMul,Int.reduceAdd,Int.reduceSub,Int.reduceMul,Int.reduceLT,Int.reduceLE,Int.reduceEq,Int.reduceToNat,Int.reduceNeg,Nat.reduceEqDiff,Nat.reduceBEq,Nat.reduceLT,xBi,xCr,xDL,xDM,xDN,xDO,xBe,xCp,xAZ,xA0,xD1,xFc,List.length_map,List.set_set,h,hsi,hi0,c']
theorem yAU {v b : Nat} {z : Bool} {l : List Nat} {H : Heap} (hv : v ≤ 6) (hl : l.length < 1099511627776) (hb : ∀ x ∈ l,x < 256) (h : H[b]? = some (.cells false false [.int .i64 (v : Nat)])) : L.icall (.func 52 []) [.sl z l.length (bs l),.func 80 [.ptr b 0]] H = some (.bool (xIu (two v) l),H) :=
  yB6 (P := fun x => decide (two v ≤ x)) (by omega) hb (fun s hs => yB7 hv hs h)
def xZj (v : Nat) (p q : List Nat) : Int := if q = [] then 3 else if 64 < p.length ∨ 64 < q.length then 4 else if xIu (two v) p = true ∨ xIu (two v) q = true then 1 else 0
theorem xU2 {v : Nat} {z1 z2 : Bool} {p q : List Nat} (hv : v ≤ 6) (hp : p.length < 1099511627776) (hq : q.length < 1099511627776) (bp : ∀ x ∈ p,x < 256) (bq : ∀ x ∈ q,x < 256) : L.pcall 45 [las z1 z2 p q,.int .i64 (v : Nat)] = some (.int .i64 (xZj v p q)) := by
  have h1 := yAU (z := z1) (l := p) (b := 1) (H := [.cells false false [xBc z1 p,xBc z2 q],.cells false false [.int .i64 (v : Nat)]]) hv hp bp rfl
  have h2 := yAU (z := z2) (l := q) (b := 1) (H := [.cells false false [xBc z1 p,xBc z2 q],.cells false false [.int .i64 (v : Nat)]]) hv hq bq rfl
  have c0 : ¬ ((v : Nat) : Int) < 0 := by omega
  have c00 : ¬ (6 : Int) < ((v : Nat) : Int) := by omega
  unfold xZj
  rw [yCB,a45,xAl]
  by_cases c1 : q = []
  · subst c1
    rw [if_pos rfl]
    simp (maxSteps := 30000000) (disch := first | assumption | omega | (simp only [WL,AV.isCell] <;> omega) | rfl | decide) only [↓reduceIte,WB,xAu,xAc,xAt,xAk,xAj,AV.cells,AV.isCell,xAa,xAd,xAe,WP,xAH,xAA,xBz,xBw,xBn,xAF,xAM,xAJ,W2,xAf,xAg,xAh,Nat.reduceAdd,Nat.reduceSub,Nat.reduceLeDiff,Nat.reduceMul,Int.reduceAdd,Int.reduceSub,Int.reduceMul,Int.reduceLT,Int.reduceLE,Int.reduceEq,Int.reduceToNat,Int.reduceNeg,Nat.reduceEqDiff,Nat.reduceBEq,Nat.reduceLT,xBi,xCr,xDL,xDM,xDN,xDO,xBe,xCp,xAZ,xA0,xD1,xFc,List.length_map,List.set_set,c0,c00]
  have c1' : ¬ ((q.length : Nat) : Int) = 0 := by
    have : 0 < q.length := List.length_pos_iff.2 c1
    omega
  rw [if_neg c1]
  by_cases c2 : 64 < p.length
  · have c2' : (64 : Int) < ((p.length : Nat) : Int) := by omega
    rw [if_pos (.inl c2)]
    simp (maxSteps := 30000000) (disch := first | assumption | omega | (simp only [WL,AV.isCell] <;> omega) | rfl | decide) only [↓reduceIte,WB,xAu,xAc,xAt,xAk,xAj,AV.cells,AV.isCell,xAa,xAd,xAe,WP,xAH,xAA,xBz,xBw,xBn,xAF,xAM,xAJ,W2,xAf,xAg,xAh,Nat.reduceAdd,Nat.reduceSub,Nat.reduceLeDiff,Nat.reduceMul,Int.reduceAdd,Int.reduceSub,Int.reduceMul,Int.reduceLT,Int.reduceLE,Int.reduceEq,Int.reduceToNat,Int.reduceNeg,Nat.reduceEqDiff,Nat.reduceBEq,Nat.reduceLT,xBi,xCr,xDL,xDM,xDN,xDO,xBe,xCp,xAZ,xA0,xD1,xFc,List.length_map,List.set_set,c0,c00,c1',c2']
  have c2' : ¬ (64 : Int) < ((p.length : Nat) : Int) := by omega
  by_cases c3 : 64 < q.length
  · have c3' : (64 : Int) < ((q.length : Nat) : Int) := by omega
    rw [if_pos (.inr c3)]
    simp (maxSteps := 30000000) (disch := first | assumption | omega | (simp only [WL,AV.isCell] <;> omega) | rfl | decide) only [↓reduceIte,WB,xAu,xAc,xAt,xAk,xAj,AV.cells,AV.isCell,xAa,xAd,xAe,WP,xAH,xAA,xBz,xBw,xBn,xAF,xAM,xAJ,W2,xAf,xAg,xAh,Nat.reduceAdd,Nat.reduceSub,Nat.reduceLeDiff,Nat.reduceMul,Int.reduceAdd,Int.reduceSub,Int.reduceMul,Int.reduceLT,Int.reduceLE,Int.reduceEq,Int.reduceToNat,Int.reduceNeg,Nat.reduceEqDiff,Nat.reduceBEq,Nat.reduceLT,xBi,xCr,xDL,xDM,xDN,xDO,xBe,xCp,xAZ,xA0,xD1,xFc,List.length_map,List.set_set,c0,c00,c1',c2',c3']
  have c3' : ¬ (64 : Int) < ((q.length : Nat) : Int) := by omega
  rw [if_neg (by omega)]
  cases d1 : xIu (two v) p with
  | true =>
    rw [d1] at h1
    rw [if_pos (.inl rfl)]
    simp (maxSteps := 30000000) (disch := first | assumption | omega | (simp only [WL,AV.isCell] <;> omega) | rfl | decide) only [↓reduceIte,WB,xAu,xAc,xAt,xAk,xAj,AV.cells,AV.isCell,xAa,xAd,xAe,WP,xAH,xAA,xBz,xBw,xBn,xAF,xAM,xAJ,W2,xAf,xAg,xAh,Nat.reduceAdd,Nat.reduceSub,Nat.reduceLeDiff,Nat.reduceMul,Int.reduceAdd,Int.reduceSub,Int.reduceMul,Int.reduceLT,Int.reduceLE,Int.reduceEq,Int.reduceToNat,Int.reduceNeg,Nat.reduceEqDiff,Nat.reduceBEq,Nat.reduceLT,xBi,xCr,xDL,xDM,xDN,xDO,xBe,xCp,xAZ,xA0,xD1,xFc,List.length_map,List.set_set,c0,c00,c1',c2',c3',h1]
  | false =>
    rw [d1] at h1
    cases d2 : xIu (two v) q with
    | true =>
      rw [d2] at h2
      rw [if_pos (.inr rfl)]
      simp (maxSteps := 30000000) (disch := first | assumption | omega | (simp only [WL,AV.isCell] <;> omega) | rfl | decide) only [↓reduceIte,WB,xAu,xAc,xAt,xAk,xAj,AV.cells,AV.isCell,xAa,xAd,xAe,WP,xAH,xAA,xBz,xBw,xBn,xAF,xAM,xAJ,W2,xAf,xAg,xAh,Nat.reduceAdd,Nat.reduceSub,Nat.reduceLeDiff,Nat.reduceMul,Int.reduceAdd,Int.reduceSub,Int.reduceMul,Int.reduceLT,Int.reduceLE,Int.reduceEq,Int.reduceToNat,Int.reduceNeg,Nat.reduceEqDiff,Nat.reduceBEq,Nat.reduceLT,xBi,xCr,xDL,xDM,xDN,xDO,xBe,xCp,xAZ,xA0,xD1,xFc,List.length_map,List.set_set,c0,c00,c1',c2',c3',h1,h2]
    | false =>
      rw [d2] at h2
      rw [if_neg (by simp)]
      simp (maxSteps := 30000000) (disch := first | assumption | omega | (simp only [WL,AV.isCell] <;> omega) | rfl | decide) only [↓reduceIte,WB,xAu,xAc,xAt,xAk,xAj,AV.cells,AV.isCell,xAa,xAd,xAe,WP,xAH,xAA,xBz,xBw,xBn,xAF,xAM,xAJ,W2,xAf,xAg,xAh,Nat.reduceAdd,Nat.reduceSub,Nat.reduceLeDiff,Nat.reduceMul,Int.reduceAdd,Int.reduceSub,Int.reduceMul,Int.reduceLT,Int.reduceLE,Int.reduceEq,Int.reduceToNat,Int.reduceNeg,Nat.reduceEqDiff,Nat.reduceBEq,Nat.reduceLT,xBi,xCr,xDL,xDM,xDN,xDO,xBe,xCp,xAZ,xA0,xD1,xFc,List.length_map,List.set_set,c0,c00,c1',c2',c3',h1,h2]
def xFE (p q : List Nat) (i : Nat) : Nat := if i < p.length then i else p.length + (i - p.length) % q.length
def ltr (p q : List Nat) (t : Nat) : Nat := (p ++ q).getD t 0
theorem xOP {p q : List Nat} (hq : 0 < q.length) (i : Nat) : xFE p q i < p.length + q.length := by
  unfold xFE
  split
  · omega
  · have := Nat.mod_lt (i - p.length) hq
    omega
theorem xOQ {p q : List Nat} (hq : 0 < q.length) (i : Nat) : ltr p q (xFE p q i) = xAY p q i := by
  unfold ltr xFE
  by_cases c : i < p.length
  · rw [if_pos c,xDe c,xD0 c]
  · rw [if_neg c,xCS (by omega),xBd (by omega),xBZ hq]
    congr 1; omega
theorem xKB {p q : List Nat} (hq : 0 < q.length) (i : Nat) : xGh p.length q.length (i : Nat) = (xFE p q i : Nat) := by
  unfold xGh xFE
  by_cases c : i < p.length
  · rw [if_pos (by omega),if_pos c]; omega
  · rw [if_neg (by omega),if_neg c]
    have e : max q.length 1 = q.length := by omega
    rw [e,show ((i : Nat) : Int) - ((p.length : Nat) : Int) = ((i - p.length : Nat) : Int) by omega]
    omega
theorem xU3 {p q : List Nat} (hq : 0 < q.length) (i : Nat) : xFE p q (i + 1) = if xFE p q i + 1 < p.length + q.length then xFE p q i + 1 else p.length := by
  unfold xFE
  by_cases c : i < p.length
  · rw [if_pos c]
    by_cases c2 : i + 1 < p.length
    · rw [if_pos c2,if_pos (by omega)]
    · rw [if_neg c2]
      have : i + 1 - p.length = 0 := by omega
      rw [this,Nat.zero_mod]
      by_cases c3 : i + 1 < p.length + q.length
      · rw [if_pos c3]; omega
      · omega
  · rw [if_neg c,if_neg (by omega)]
    rw [show i + 1 - p.length = (i - p.length) + 1 by omega]
    have hm := Nat.mod_lt (i - p.length) hq
    by_cases c3 : (i - p.length) % q.length + 1 < q.length
    · rw [if_pos (by omega)]
      have : (i - p.length + 1) % q.length = (i - p.length) % q.length + 1 := by
        rw [Nat.add_mod]
        rw [Nat.mod_eq_of_lt (show 1 < q.length by omega),Nat.mod_eq_of_lt c3]
      omega
    · rw [if_neg (by omega)]
      have e : (i - p.length) % q.length + 1 = q.length := by omega
      have : (i - p.length + 1) % q.length = 0 := by
        have h1 := Nat.div_add_mod (i - p.length) q.length
        have : i - p.length + 1 = q.length * ((i - p.length) / q.length + 1) := by rw [Nat.mul_add]; omega
        rw [this]; exact Nat.mul_mod_right ..
      omega
def xBy (M : Ma) (p q : List Nat) (c : Nat × Nat) : Nat × Nat := (nx M c.1 (ltr p q c.2),if c.2 + 1 < p.length + q.length then c.2 + 1 else p.length)
def xWC (M : Ma) (p q : List Nat) (c : Nat × Nat) : Nat := lt2 M.i (ltr p q c.2) (em M c.1 (ltr p q c.2))
structure Lo (v : Nat) (p q : List Nat) : Prop where
  q0 : 0 < q.length
  p4 : p.length ≤ 64
  q4 : q.length ≤ 64
  pb : ∀ x ∈ p,x < two v
  qb : ∀ x ∈ q,x < two v
theorem lasE_zero {v : Nat} {p q : List Nat} : xZj v p q = 0 ↔ Lo v p q := by
  unfold xZj
  by_cases c1 : q = []
  · rw [if_pos c1]
    exact ⟨fun h => by omega,fun h => by have := h.q0; subst c1; simp at this⟩
  rw [if_neg c1]
  by_cases c2 : 64 < p.length ∨ 64 < q.length
  · rw [if_pos c2]
    exact ⟨fun h => by omega,fun h => by have := h.p4; have := h.q4; omega⟩
  rw [if_neg c2]
  by_cases c3 : xIu (two v) p = true ∨ xIu (two v) q = true
  · rw [if_pos c3]
    refine ⟨fun h => by omega,fun h => ?_⟩
    rcases c3 with c3 | c3
    · rw [bigW_iff.2 h.pb] at c3; cases c3
    · rw [bigW_iff.2 h.qb] at c3; cases c3
  · rw [if_neg c3]
    simp only [not_or,Bool.not_eq_true] at c3
    exact ⟨fun _ => ⟨List.length_pos_iff.2 c1,by omega,by omega,bigW_iff.1 c3.1,bigW_iff.1 c3.2⟩,fun _ => rfl⟩
theorem Lo.ltr {v : Nat} {p q : List Nat} (h : Lo v p q) {t : Nat} (ht : t < p.length + q.length) : ltr p q t < two v := by
  unfold Mealy.ltr
  have := xA2 (a := (0 : Nat)) (show t < (p ++ q).length by rw [List.length_append]; exact ht)
  rcases List.mem_append.1 this with h' | h'
  · exact h.pb _ h'
  · exact h.qb _ h'
theorem xIn {M : Ma} {p q : List Nat} (hV : Vm M) (hL : Lo M.i p q) : ∀ k,(it (xBy M p q) (M.s,0) k).1 < M.next.length ∧ (it (xBy M p q) (M.s,0) k).2 = xFE p q k
  | 0 => ⟨hV.s,by
    have := hL.q0
    unfold it xFE
    split
    · rfl
    · have : p.length = 0 := by omega
      simp [this]⟩
  | k + 1 => by
    have ih := xIn hV hL k
    have hi := xOP (p := p) hL.q0 k
    refine ⟨hV.nx ih.1 (by rw [ih.2]; exact hL.ltr hi),?_⟩
    rw [xU3 hL.q0,← ih.2]
    rfl
theorem xLk {M : Ma} {p q : List Nat} (hV : Vm M) (hL : Lo M.i p q) (n : Nat) : ∀ x ∈ its (xBy M p q) (M.s,0) n,x.1 < M.next.length ∧ x.2 < p.length + q.length := by
  intro x hx
  obtain ⟨k,_,rfl⟩ := List.mem_map.1 hx
  have := xIn hV hL k
  exact ⟨this.1,by rw [this.2]; exact xOP hL.q0 k⟩
structure Inv18 (M : Ma) (z1 z2 : Bool) (p q : List Nat) (G : Heap) (ks : List (Nat × Nat)) (w : List Nat) : Prop where
  g0 : G[0]? = some (.cells false false M.cells)
  g1 : G[1]? = some (.cells false false [xBc z1 p,xBc z2 q])
  g2 : G[2]? = some (.cells false false [.sl true 0 [],.sl true 0 []])
  tr : TrI 4 3 G ks w
  len : 4 ≤ G.length
section
variable {M : Ma} {z1 z2 : Bool} {p q : List Nat} {G : Heap} {s n : Nat} {ks : List (Nat × Nat)} {w : List Nat}
abbrev F18 (s i : Nat) : List AV := xO9 (.ptr 0 0) (.ptr 1 0) (.ptr 2 0) (.int .i64 0) (.int .i64 (s : Nat)) (.ptr 3 0) (.int .i64 (i : Nat))
set_option maxHeartbeats 1000000 in
theorem xU4 (hV : Vm M) (hL : Lo M.i p q) (h : Inv18 M z1 z2 p q G ks w) (hs : s < M.next.length) (hk : (s,xFE p q n) ∉ ks) (hl : w.length = ks.length) (hw : w.length < 1099511627) (hn : n < 1099511627) :
    ∃ G',L.loop xFS xOv ⟨F18 s n,G⟩ = L.loop xFS xOv ⟨F18 (xBy M p q (s,xFE p q n)).1 (n + 1),G'⟩ ∧ Inv18 M z1 z2 p q G' (ks ++ [(s,xFE p q n)]) (w ++ [xWC M p q (s,xFE p q n)]) := by
  obtain ⟨G1,k1,k2,k3⟩ := xWv (T := 3) (B := 4) (by omega) h.len h.tr hk hl (by omega)
  have h0 := h.g0
  have h1 := h.g1
  have g0 := (k3.2 0 (by omega) (by omega)).trans h.g0
  have g1 := (k3.2 1 (by omega) (by omega)).trans h.g1
  have g2 := (k3.2 2 (by omega) (by omega)).trans h.g2
  have hlen : 4 ≤ G1.length := by have := h.len; have := k3.1; omega
  obtain ⟨mv,wv,t1,t2,t3⟩ := k2
  have p4 := hL.p4
  have q4 := hL.q4
  have hix := xLb z1 z2 p q (n : Nat) (by omega) (by omega) (by omega) (by omega)
  rw [xKB hL.q0] at hix
  have hat := yAH z1 z2 p q (n : Nat) (by omega) (by omega) (by omega) (by omega)
  rw [xUu,← xOQ hL.q0] at hat
  have hi := hL.ltr (xOP (p := p) hL.q0 n)
  have ho := hV.em hs hi
  have hio := hV.io
  have l1 := hV.nl hs
  have l2 := hV.wl' hs
  have l5 := hV.el
  have hsh := xUU hio hi ho
  have hor := xXR hio hi ho
  have hnx : (xBy M p q (s,xFE p q n)).1 = nx M s (ltr p q (xFE p q n)) := rfl
  have hlc : xWC M p q (s,xFE p q n) = lt2 M.i (ltr p q (xFE p q n)) (em M s (ltr p q (xFE p q n))) := rfl
  rw [hnx,hlc]
  unfold em at ho hsh hor ⊢
  unfold nx
  generalize xFE p q n = t at *
  generalize ltr p q t = x at *
  generalize hOo : (M.emit.getD s []).getD x 0 = o at *
  have g0' := g0
  unfold Ma.cells at g0'
  simp only [las] at hix hat
  simp only [kv2] at k1
  have hi0 : ¬ ((M.i : Nat) : Int) < 0 := by omega
  rcases t3 with ⟨rfl,rfl⟩ | ⟨b,rfl,hb,hbw⟩
  · refine ⟨G1.set 3 (.cells false false [mv,.own false (G1.length + 1) 0 1 1]) ++ [.cells false false [.sl true 0 [],.sl true 0 []],.cells false false (bs [lt2 M.i x o])],?_,⟨?_,?_,?_,?_,?_⟩⟩
    · rw [xSA]
      simp (maxSteps := 30000000) (disch := first | assumption | omega | (simp only [WL,AV.isCell] <;> omega) | rfl | decide) only [↓reduceIte,WB,xAu,xAc,xAt,xAk,xAj,AV.cells,AV.isCell,xAa,xAd,xAe,WP,xAH,xAA,xBz,xBw,xBn,xAF,xAM,xAJ,W2,xAf,xAg,xAh,Nat.reduceAdd,Nat.reduceSub,Nat.reduceLeDiff,Nat.reduceMul,Int.reduceAdd,Int.reduceSub,Int.reduceMul,Int.reduceLT,Int.reduceLE,Int.reduceEq,Int.reduceToNat,Int.reduceNeg,Nat.reduceEqDiff,Nat.reduceBEq,Nat.reduceLT,xBi,xCr,xDL,xDM,xDN,xDO,xBe,xCp,xAZ,xA0,xD1,xFc,List.length_map,List.set_set,xL2,xL3,h1,hix,hat,k1,g0',g1,g2,t1,l1,l2,l5,hOo,hi,ho,hs,hsh,hor,hi0]
      rfl
    · rw [xBi (by simp; omega),xBe (by omega),g0]
    · rw [xBi (by simp; omega),xBe (by omega),g1]
    · rw [xBi (by simp; omega),xBe (by omega),g2]
    · refine ⟨mv,.own false (G1.length + 1) 0 1 1,?_,?_,.inr ⟨G1.length + 1,rfl,by omega,?_⟩⟩
      · rw [xBi (by simp; omega),xCp (by omega)]
      · rcases t2 with t2 | ⟨q,e,hq,hm⟩
        · exact .inl t2
        · have := xFB hm
          exact .inr ⟨q,e,hq,by rw [xBi (by simp; omega),xBe (by omega)]; exact hm⟩
      · rw [xCr (by simp)]; rfl
    · simp; omega
  · have hGp := xFB hbw
    refine ⟨(G1.set b .dead).set 3 (.cells false false [mv,.own false (G1.length + 1) 0 (w.length + 1) 1]) ++ [.cells false false [.sl true 0 [],.sl true 0 []],.cells false false (bs (w ++ [lt2 M.i x o]))],?_,⟨?_,?_,?_,?_,?_⟩⟩
    · have hb3 : b ≠ 3 := by omega
      rw [xSA]
      simp (maxSteps := 30000000) (disch := first | assumption | omega | (simp only [WL,AV.isCell] <;> omega) | rfl | decide) only [↓reduceIte,WB,xAu,xAc,xAt,xAk,xAj,AV.cells,AV.isCell,xAa,xAd,xAe,WP,xAH,xAA,xBz,xBw,xBn,xAF,xAM,xAJ,W2,xAf,xAg,xAh,Nat.reduceAdd,Nat.reduceSub,Nat.reduceLeDiff,Nat.reduceMul,Int.reduceAdd,Int.reduceSub,Int.reduceMul,Int.reduceLT,Int.reduceLE,Int.reduceEq,Int.reduceToNat,Int.reduceNeg,Nat.reduceEqDiff,Nat.reduceBEq,Nat.reduceLT,xBi,xCr,xDL,xDM,xDN,xDO,xBe,xCp,xAZ,xA0,xD1,xFc,List.length_map,List.set_set,xL2,xL3,h1,hix,hat,k1,g0',g1,g2,t1,hbw,l1,l2,l5,hOo,hi,ho,hs,hsh,hor,hi0]
      rw [xMu]; rfl
    · rw [xBi (by simp; omega),xBe (by omega),xBe (by omega),g0]
    · rw [xBi (by simp; omega),xBe (by omega),xBe (by omega),g1]
    · rw [xBi (by simp; omega),xBe (by omega),xBe (by omega),g2]
    · refine ⟨mv,.own false (G1.length + 1) 0 (w.length + 1) 1,?_,?_,.inr ⟨G1.length + 1,by simp,by omega,?_⟩⟩
      · rw [xBi (by simp; omega),xCp (by simp; omega)]
      · rcases t2 with t2 | ⟨q,e,hq,hm⟩
        · exact .inl t2
        · have := xFB hm
          exact .inr ⟨q,e,hq,by rw [xBi (by simp; omega),xBe (by omega),xBe (by rintro rfl; rw [hbw] at hm; cases hm)]; exact hm⟩
      · rw [xCr (by simp)]; rfl
    · simp; omega
theorem xZc (hV : Vm M) (hL : Lo M.i p q) (h : Inv18 M z1 z2 p q G ks w) (hk : (s,xFE p q n) ∈ ks) (hl : w.length = ks.length) (hw : w.length < 1099511627) (hn : n < 1099511627) :
    ∃ G' p' q' a b,L.loop xFS xOv ⟨F18 s n,G⟩ = some (.ret,⟨F18 s n,G'⟩) ∧ G'[2]? = some (.cells false false [.own false a 0 p'.length 1,.own false b 0 q'.length 1]) ∧ a ≠ b ∧ 2 < a ∧ 2 < b ∧
      G'[a]? = some (.cells false false (bs p')) ∧ G'[b]? = some (.cells false false (bs q')) ∧ Canon (xAY (w.take (pos (s,xFE p q n) ks)) (w.drop (pos (s,xFE p q n) ks))) p' q' ∧ p'.length ≤ w.length ∧ q'.length ≤ w.length := by
  obtain ⟨G1,a,b,p',q',k1,k2,k3,k4,k5,k6,k7,k8,k9,k10⟩ := xWw (T := 3) (B := 4) (by omega) h.len h.tr hk hl (by omega)
  have g2 := (k10.2 2 (by omega) (by omega)).trans h.g2
  have hlen : 4 ≤ G1.length := by have := h.len; have := k10.1; omega
  have h1 := h.g1
  have ha := xFB k6
  have hb := xFB k7
  have p4 := hL.p4
  have q4 := hL.q4
  have hix := xLb z1 z2 p q (n : Nat) (by omega) (by omega) (by omega) (by omega)
  rw [xKB hL.q0] at hix
  generalize xFE p q n = t at *
  simp only [las] at hix
  simp only [kv2] at k1
  refine ⟨G1.set 2 (.cells false false [.own false a 0 p'.length 1,.own false b 0 q'.length 1]) ++ [.cells false false [.own false a 0 p'.length 1,.own false b 0 q'.length 1]],p',q',a,b,?_,?_,k5,by omega,by omega,?_,?_,k2,k8,k9⟩
  · rw [xSA]
    simp (maxSteps := 30000000) (disch := first | assumption | omega | (simp only [WL,AV.isCell] <;> omega) | rfl | decide) only [↓reduceIte,WB,xAu,xAc,xAt,xAk,xAj,AV.cells,AV.isCell,xAa,xAd,xAe,WP,xAH,xAA,xBz,xBw,xBn,xAF,xAM,xAJ,W2,xAf,xAg,xAh,Nat.reduceAdd,Nat.reduceSub,Nat.reduceLeDiff,Nat.reduceMul,Int.reduceAdd,Int.reduceSub,Int.reduceMul,Int.reduceLT,Int.reduceLE,Int.reduceEq,Int.reduceToNat,Int.reduceNeg,Nat.reduceEqDiff,Nat.reduceBEq,Nat.reduceLT,xBi,xCr,xDL,xDM,xDN,xDO,xBe,xCp,xAZ,xA0,xD1,xFc,List.length_map,List.set_set,xL2,xL3,h1,hix,k1,g2]
    try rfl
  · rw [xBi (by simp; omega),xCp (by omega)]
  · rw [xBi (by simp; omega),xBe (by omega),k6]
  · rw [xBi (by simp; omega),xBe (by omega),k7]
end
section
variable {M : Ma} {z1 z2 : Bool} {p q : List Nat}
theorem xZd (hV : Vm M) (hL : Lo M.i p q) : ∀ e n G,n + e = M.next.length * (p.length + q.length) + 1 → (its (xBy M p q) (M.s,0) n).Nodup → Inv18 M z1 z2 p q G (its (xBy M p q) (M.s,0) n) (lts (xBy M p q) (xWC M p q) (M.s,0) n) →
    ∃ n0 F' G' p' q' a b,yC0 (xBy M p q) (M.s,0) n0 ∧ L.loop xFS xOv ⟨F18 (it (xBy M p q) (M.s,0) n).1 n,G⟩ = some (.ret,⟨F',G'⟩) ∧ F'.getD 4 .any = .ptr 2 0 ∧ F'.getD 5 .any = .int .i64 0 ∧ G'[2]? = some (.cells false false [.own false a 0 p'.length 1,.own false b 0 q'.length 1]) ∧ a ≠ b ∧ 2 < a ∧ 2 < b ∧
      G'[a]? = some (.cells false false (bs p')) ∧ G'[b]? = some (.cells false false (bs q')) ∧ Canon (fun j => xWC M p q (it (xBy M p q) (M.s,0) j)) p' q' ∧ p'.length ≤ n0 ∧ q'.length ≤ n0 := by
  intro e
  induction e with
  | zero =>
    intro n G h hd hI
    have := xCW hd (xLk hV hL n)
    rw [xIm] at this
    omega
  | succ e ih =>
    intro n G h hd hI
    have hc := xIn hV hL n
    have hle := xCW hd (xLk hV hL n)
    rw [xIm] at hle
    have p4 := hL.p4
    have q4 := hL.q4
    have hm := Nat.mul_le_mul hV.n9 (show p.length + q.length ≤ 128 by omega)
    have hll : (lts (xBy M p q) (xWC M p q) (M.s,0) n).length = (its (xBy M p q) (M.s,0) n).length := by rw [xFD,xIm]
    have hcc : it (xBy M p q) (M.s,0) n = ((it (xBy M p q) (M.s,0) n).1,xFE p q n) := by rw [← hc.2]
    by_cases hk : it (xBy M p q) (M.s,0) n ∈ its (xBy M p q) (M.s,0) n
    · have hk' := hk
      rw [hcc] at hk'
      obtain ⟨G',p',q',a,b,k1,k2,k3,k4,k5,k6,k7,k8,k9,k10⟩ := xZc (s := (it (xBy M p q) (M.s,0) n).1) (n := n) hV hL hI hk' hll (by rw [xFD]; omega) (by omega)
      rw [← hcc] at k8
      rw [xFD] at k9 k10
      have hS : xAY ((lts (xBy M p q) (xWC M p q) (M.s,0) n).take (pos (it (xBy M p q) (M.s,0) n) (its (xBy M p q) (M.s,0) n))) ((lts (xBy M p q) (xWC M p q) (M.s,0) n).drop (pos (it (xBy M p q) (M.s,0) n) (its (xBy M p q) (M.s,0) n))) = fun j => xWC M p q (it (xBy M p q) (M.s,0) j) := funext fun j => xU1 hk j
      rw [hS] at k8
      exact ⟨n,_,G',p',q',a,b,⟨hd,hk⟩,k1,rfl,rfl,k2,k3,k4,k5,k6,k7,k8,k9,k10⟩
    · have hk' := hk
      rw [hcc] at hk'
      obtain ⟨G',k1,k2⟩ := xU4 (s := (it (xBy M p q) (M.s,0) n).1) (n := n) hV hL hI hc.1 hk' hll (by rw [xFD]; omega) (by omega)
      rw [← hcc] at k1 k2
      rw [k1]
      refine ih (n + 1) G' (by omega) (xU0 hd hk) ?_
      rw [xQO,xWB]
      exact k2
def SL (M : Ma) (p q : List Nat) (j : Nat) : Nat := xWC M p q (it (xBy M p q) (M.s,0) j)
theorem xRG (z1 z2 : Bool) (hV : Vm M) (hL : Lo M.i p q) : ∃ p' q',Canon (SL M p q) p' q' ∧ p'.length ≤ 1000000 ∧ q'.length ≤ 1000000 ∧
    L.pcall 18 [M.av,las z1 z2 p q] = some (.tup [las false false p' q',.int .i64 0]) ∧
    xBD L 18 [M.av,las z1 z2 p q] = some (.tup [.agg [.own false 0 0 p'.length 1,.own false 1 0 q'.length 1],.int .i64 0],[.cells false false (bs p'),.cells false false (bs q')]) := by
  have hc1 := xKr hV
  have p4 := hL.p4
  have q4 := hL.q4
  have io := hV.io
  have hb6 := (xDf (show M.i ≤ 6 by omega)).1
  have hc2 := xU2 (v := M.i) (z1 := z1) (z2 := z2) (p := p) (q := q) (by omega) (by omega) (by omega) (fun x hx => by have := hL.pb x hx; omega) (fun x hx => by have := hL.qb x hx; omega)
  rw [lasE_zero.2 hL] at hc2
  obtain ⟨n0,F',G',p',q',a,b,k0,k1,kf1,kf2,k2,k3,k4,k5,k6,k7,k8,k9,k10⟩ := xZd (z1 := z1) (z2 := z2) hV hL (M.next.length * (p.length + q.length) + 1) 0
    [.cells false false M.cells,.cells false false [xBc z1 p,xBc z2 q],.cells false false [.sl true 0 [],.sl true 0 []],.cells false false [.nilm,.sl true 0 []]]
    (by omega) (by simp [its]) ⟨rfl,rfl,rfl,⟨.nilm,.sl true 0 [],rfl,.inl ⟨rfl,rfl⟩,.inl ⟨rfl,rfl⟩⟩,by simp⟩
  have hle := xCW k0.1 (xLk hV hL n0)
  rw [xIm] at hle
  have hm := Nat.mul_le_mul hV.n9 (show p.length + q.length ≤ 128 by omega)
  refine ⟨p',q',k8,by omega,by omega,?_,?_⟩
  · have e1 : (it (xBy M p q) (M.s,0) 0).1 = M.s := rfl
    rw [e1] at k1
    unfold F18 at k1
    unfold Ma.av at hc1 ⊢
    unfold Ma.cells at hc1 k1 ⊢
    simp only [las,Int.natCast_zero] at hc2 k1 ⊢
    rw [yCx,a18,xAl]
    simp (maxSteps := 30000000) (disch := first | assumption | omega | (simp only [WL,AV.isCell] <;> omega) | rfl | decide) only [↓reduceIte,WB,xAu,xAc,xAt,xAk,xAj,AV.cells,AV.isCell,xAa,xAd,xAe,WP,xAH,xAA,xBz,xBw,xBn,xAF,xAM,xAJ,W2,xAf,xAg,xAh,Nat.reduceAdd,Nat.reduceSub,Nat.reduceLeDiff,Nat.reduceMul,Int.reduceAdd,Int.reduceSub,Int.reduceMul,Int.reduceLT,Int.reduceLE,Int.reduceEq,Int.reduceToNat,Int.reduceNeg,Nat.reduceEqDiff,Nat.reduceBEq,Nat.reduceLT,xBi,xCr,xDL,xDM,xDN,xDO,xBe,xCp,List.length_map,xL3,hc1,hc2,k1,kf1,kf2,k2,k6,k7]
  · have hab : (a == b) = false := by simpa using k3
    have e1 : (it (xBy M p q) (M.s,0) 0).1 = M.s := rfl
    rw [e1] at k1
    unfold F18 at k1
    unfold Ma.av at hc1 ⊢
    unfold Ma.cells at hc1 k1 ⊢
    simp only [las,Int.natCast_zero] at hc2 k1 ⊢
    rw [xCR,yCy,a18,xCx]
    simp (maxSteps := 30000000) (disch := first | assumption | omega | (simp only [WL,AV.isCell] <;> omega) | rfl | decide) only [↓reduceIte,WB,xAu,xAc,xAt,xAk,xAj,AV.cells,AV.isCell,xAa,xAd,xAe,WP,xAH,xAA,xBz,xBw,xBn,xAF,xAM,xAJ,W2,xAf,xAg,xAh,Nat.reduceAdd,Nat.reduceSub,Nat.reduceLeDiff,Nat.reduceMul,Int.reduceAdd,Int.reduceSub,Int.reduceMul,Int.reduceLT,Int.reduceLE,Int.reduceEq,Int.reduceToNat,Int.reduceNeg,Nat.reduceEqDiff,Nat.reduceBEq,Nat.reduceLT,xBi,xCr,xDL,xDM,xDN,xDO,xBe,xCp,List.length_map,xL3,hc1,hc2,k1,kf1,kf2,k2,hab,k6,k7]
variable {w : List Nat} {zw : Bool}
end
abbrev TMa : TS := ⟨true,[.int .i64,.int .i64,.int .i64,.sl [.sl [.int .i64]],.sl [.sl [.int .u8]]]⟩
abbrev TMo : TS := ⟨true,[.int .i64,.int .i64,.int .i64,.sl [.int .u8],.sl [.sl [.int .i64]]]⟩
abbrev TU8 : TS := ⟨false,[.int .u8]⟩
theorem xD4 {α : Type} {f : α → AV} {P : α → Prop} : ∀ (cs : List AV),(∀ x ∈ cs,∃ a,x = f a ∧ P a) → ∃ l : List α,cs = l.map f ∧ ∀ a ∈ l,P a
  | [],_ => ⟨[],rfl,by simp⟩
  | c :: cs,h => by
    obtain ⟨a,rfl,ha⟩ := h c (by simp)
    obtain ⟨l,rfl,hl⟩ := xD4 cs (fun x hx => h x (by simp [hx]))
    exact ⟨a :: l,rfl,by simpa using ⟨ha,hl⟩⟩
theorem xXU {a : AV} (h : Fit (.sl [.int .i64]) a) : ∃ r,a = rwV r ∧ (r.z = true → r.l = []) := by
  obtain ⟨z,cs,rfl,hz,_,hf⟩ := xIo h
  obtain ⟨l,rfl,_⟩ := xD4 (f := fun n : Int => AV.int .i64 n) (P := fun _ => True) cs (fun x hx => by obtain ⟨n,rfl,_⟩ := xEn (hf x hx); exact ⟨n,rfl,trivial⟩)
  exact ⟨⟨z,l⟩,by simp [rwV,xB4],by simpa using hz⟩
theorem xXV {a : AV} (h : Fit (.sl [.int .u8]) a) : ∃ w : Wd,a = wdV w ∧ (w.z = true → w.l = []) ∧ ∀ x ∈ w.l,x < 256 := by
  obtain ⟨z,cs,rfl,hz,_,hf⟩ := xIo h
  obtain ⟨l,rfl,hl⟩ := xD4 (f := fun n : Nat => AV.int .u8 n) (P := fun n => n < 256) cs (fun x hx => by obtain ⟨n,rfl,h⟩ := xXW (hf x hx); exact ⟨n,rfl,h⟩)
  exact ⟨⟨z,l⟩,by simp [wdV,bs],by simpa using hz,hl⟩
structure In (m : Mf) : Prop where
  i : -9223372036854775808 ≤ m.i ∧ m.i < 9223372036854775808
  o : -9223372036854775808 ≤ m.o ∧ m.o < 9223372036854775808
  s : -9223372036854775808 ≤ m.s ∧ m.s < 9223372036854775808
  cn : Cn m
  nl : m.next.length ≤ 9223372036854775807
  b : ∀ w ∈ m.emit,∀ x ∈ w.l,x < 256
structure InN (m : Nf) : Prop where
  i : -9223372036854775808 ≤ m.i ∧ m.i < 9223372036854775808
  o : -9223372036854775808 ≤ m.o ∧ m.o < 9223372036854775808
  s : -9223372036854775808 ≤ m.s ∧ m.s < 9223372036854775808
  cn : CnN m
  nl : m.next.length ≤ 9223372036854775807
  b : ∀ x ∈ m.give,x < 256
theorem yAV {a : AV} (h : xRJ TMa a) : ∃ m : Mf,a = m.av ∧ In m := by
  obtain ⟨cs,rfl,h'⟩ := xN3 h
  obtain ⟨a1,cs,rfl,h1,h'⟩ := xA7 h'
  obtain ⟨a2,cs,rfl,h2,h'⟩ := xA7 h'
  obtain ⟨a3,cs,rfl,h3,h'⟩ := xA7 h'
  obtain ⟨a4,cs,rfl,h4,h'⟩ := xA7 h'
  obtain ⟨a5,cs,rfl,h5,h'⟩ := xA7 h'
  obtain rfl := xKE h'
  obtain ⟨i,rfl,b1⟩ := xEn h1
  obtain ⟨o,rfl,b2⟩ := xEn h2
  obtain ⟨s,rfl,b3⟩ := xEn h3
  obtain ⟨z,c4,rfl,z4,q4,hf⟩ := xIo h4
  obtain ⟨nx,rfl,p4⟩ := xD4 (f := rwV) (P := fun r => r.z = true → r.l = []) c4 (fun x hx => xXU (hf x hx))
  obtain ⟨ze,c5,rfl,z5,_,hf5⟩ := xIo h5
  obtain ⟨emi,rfl,p5⟩ := xD4 (f := wdV) (P := fun r => (r.z = true → r.l = []) ∧ ∀ x ∈ r.l,x < 256) c5 (fun x hx => xXV (hf5 x hx))
  exact ⟨⟨i,o,s,z,nx,ze,emi⟩,by simp [Mf.av,Mf.cells],⟨⟨b1.1,Int.lt_of_le_of_lt b1.2 (by decide)⟩,⟨b2.1,Int.lt_of_le_of_lt b2.2 (by decide)⟩,⟨b3.1,Int.lt_of_le_of_lt b3.2 (by decide)⟩,⟨by simpa using z4,by simpa using z5,p4,fun w hw => (p5 w hw).1⟩,by simpa [maxLen] using q4,fun w hw => (p5 w hw).2⟩⟩
theorem yAW {a : AV} (h : xRJ TMo a) : ∃ m : Nf,a = m.av ∧ InN m := by
  obtain ⟨cs,rfl,h'⟩ := xN3 h
  obtain ⟨a1,cs,rfl,h1,h'⟩ := xA7 h'
  obtain ⟨a2,cs,rfl,h2,h'⟩ := xA7 h'
  obtain ⟨a3,cs,rfl,h3,h'⟩ := xA7 h'
  obtain ⟨a4,cs,rfl,h4,h'⟩ := xA7 h'
  obtain ⟨a5,cs,rfl,h5,h'⟩ := xA7 h'
  obtain rfl := xKE h'
  obtain ⟨i,rfl,b1⟩ := xEn h1
  obtain ⟨o,rfl,b2⟩ := xEn h2
  obtain ⟨s,rfl,b3⟩ := xEn h3
  obtain ⟨g,e4,z4,p4⟩ := xXV h4
  obtain ⟨z,c5,rfl,z5,q5,hf⟩ := xIo h5
  obtain ⟨nx,rfl,p5⟩ := xD4 (f := rwV) (P := fun r => r.z = true → r.l = []) c5 (fun x hx => xXU (hf x hx))
  exact ⟨⟨i,o,s,g.z,g.l,z,nx⟩,by rw [e4]; simp [Nf.av,Nf.cells,wdV],⟨⟨b1.1,Int.lt_of_le_of_lt b1.2 (by decide)⟩,⟨b2.1,Int.lt_of_le_of_lt b2.2 (by decide)⟩,⟨b3.1,Int.lt_of_le_of_lt b3.2 (by decide)⟩,⟨by simpa using z5,z4,p5⟩,by simpa [maxLen] using q5,p4⟩⟩
def xDa (l : List Rw) : Bool := l.any fun r => decide (66 < r.l.length)
def xIv (l : List Wd) : Bool := l.any fun r => decide (66 < r.l.length)
def xFb (m : Mf) : Bool := decide (14 < m.next.length ∨ 16 < m.emit.length) || xDa m.next || xIv m.emit
section
variable {cs : List AV} {nm k : Nat} {m : Mf} {s3 s4 s5 : AV} {H : Heap}
theorem yAX (hk : k < nm) (hcs : cs.length = nm * 5) (h3 : List.take 1 (List.drop (k * 5 + 3) cs) = [.sl m.z m.next.length (m.next.map rwV)]) (hn : m.next.length ≤ 14) (hnm : nm < 100) : ∀ e i,i + e = m.next.length →
    ∃ j : Nat,L.loop xLZ xVJ ⟨xIR (.sl false nm cs) (.bool false) (.int .i64 (k : Nat)) (.int .i64 (i : Nat)),H⟩ =
      some (if xDa (m.next.drop i) = true then (.ret,⟨xIR (.sl false nm cs) (.bool true) (.int .i64 (k : Nat)) (.int .i64 (j : Nat)),H⟩)
        else (.exit 2,⟨xIR (.sl false nm cs) (.bool false) (.int .i64 (k : Nat)) (.int .i64 (m.next.length : Nat)),H⟩)) := by
  intro e
  induction e with
  | zero =>
    intro i h
    obtain rfl : i = m.next.length := by omega
    refine ⟨0,?_⟩
    rw [if_neg (by rw [List.drop_length]; simp [xDa]),xSy]
    simp (maxSteps := 30000000) (disch := first | assumption | omega | (simp only [WL,AV.isCell] <;> omega) | rfl | decide) only [↓reduceIte,WB,xAu,xAc,xAt,xAk,xAj,AV.cells,AV.isCell,xAa,xAd,xAe,W2,xAf,xAg,xAh,Nat.reduceAdd,Nat.reduceSub,Nat.reduceLeDiff,Nat.reduceMul,Int.reduceAdd,Int.reduceSub,Int.reduceMul,Int.reduceLT,Int.reduceLE,Int.reduceEq,Int.reduceToNat,Int.reduceNeg,Nat.reduceEqDiff,Nat.reduceBEq,Nat.reduceLT,xAr,xAs,List.length_map,xIQ,xFR,h3]
  | succ e ih =>
    intro i h
    have hlt : (i : Int) < (m.next.length : Nat) := by omega
    obtain ⟨j,ih'⟩ := ih (i + 1) (by omega)
    have hrv : rwV (m.next.getD i r0) = .sl (m.next.getD i r0).z (m.next.getD i r0).l.length (xB4 (m.next.getD i r0).l) := rfl
    rw [xAT (a := r0) (by omega : i < m.next.length)]
    have et : ∀ t,xDa (m.next.getD i r0 :: t) = (decide (66 < (m.next.getD i r0).l.length) || xDa t) := fun _ => rfl
    rw [et]
    by_cases c : 66 < (m.next.getD i r0).l.length
    · have c' : (66 : Int) < ((m.next.getD i r0).l.length : Nat) := by omega
      refine ⟨i,?_⟩
      rw [decide_eq_true c,Bool.true_or,if_pos rfl,xSy]
      simp (maxSteps := 30000000) (disch := first | assumption | omega | (simp only [WL,AV.isCell] <;> omega) | rfl | decide) only [↓reduceIte,WB,xAu,xAc,xAt,xAk,xAj,AV.cells,AV.isCell,xAa,xAd,xAe,W2,xAf,xAg,xAh,Nat.reduceAdd,Nat.reduceSub,Nat.reduceLeDiff,Nat.reduceMul,Int.reduceAdd,Int.reduceSub,Int.reduceMul,Int.reduceLT,Int.reduceLE,Int.reduceEq,Int.reduceToNat,Int.reduceNeg,Nat.reduceEqDiff,Nat.reduceBEq,Nat.reduceLT,xAr,xAs,List.length_map,xIQ,xFR,h3,hlt,hrv,c']
    · have c' : ¬ (66 : Int) < ((m.next.getD i r0).l.length : Nat) := by omega
      refine ⟨j,?_⟩
      rw [decide_eq_false c,Bool.false_or,xSy]
      by_cases e : xDa (m.next.drop (i + 1)) = true
      · rw [if_pos e] at ih' ⊢
        simp (maxSteps := 30000000) (disch := first | assumption | omega | (simp only [WL,AV.isCell] <;> omega) | rfl | decide) only [↓reduceIte,WB,xAu,xAc,xAt,xAk,xAj,AV.cells,AV.isCell,xAa,xAd,xAe,W2,xAf,xAg,xAh,Nat.reduceAdd,Nat.reduceSub,Nat.reduceLeDiff,Nat.reduceMul,Int.reduceAdd,Int.reduceSub,Int.reduceMul,Int.reduceLT,Int.reduceLE,Int.reduceEq,Int.reduceToNat,Int.reduceNeg,Nat.reduceEqDiff,Nat.reduceBEq,Nat.reduceLT,xAr,xAs,List.length_map,xIQ,xFR,h3,hlt,hrv,c',ih']
      · rw [if_neg e] at ih' ⊢
        simp (maxSteps := 30000000) (disch := first | assumption | omega | (simp only [WL,AV.isCell] <;> omega) | rfl | decide) only [↓reduceIte,WB,xAu,xAc,xAt,xAk,xAj,AV.cells,AV.isCell,xAa,xAd,xAe,W2,xAf,xAg,xAh,Nat.reduceAdd,Nat.reduceSub,Nat.reduceLeDiff,Nat.reduceMul,Int.reduceAdd,Int.reduceSub,Int.reduceMul,Int.reduceLT,Int.reduceLE,Int.reduceEq,Int.reduceToNat,Int.reduceNeg,Nat.reduceEqDiff,Nat.reduceBEq,Nat.reduceLT,xAr,xAs,List.length_map,xIQ,xFR,h3,hlt,hrv,c',ih']
theorem yAY (hk : k < nm) (hcs : cs.length = nm * 5) (h3 : List.take 1 (List.drop (k * 5 + 4) cs) = [.sl m.ze m.emit.length (m.emit.map wdV)]) (hn : m.emit.length ≤ 16) (hnm : nm < 100) : ∀ e i,i + e = m.emit.length →
    ∃ j : Nat,L.loop xL0 xVK ⟨xIT (.sl false nm cs) (.bool false) (.int .i64 (k : Nat)) (.int .i64 (i : Nat)),H⟩ =
      some (if xIv (m.emit.drop i) = true then (.ret,⟨xIT (.sl false nm cs) (.bool true) (.int .i64 (k : Nat)) (.int .i64 (j : Nat)),H⟩)
        else (.exit 4,⟨xIT (.sl false nm cs) (.bool false) (.int .i64 (k : Nat)) (.int .i64 (m.emit.length : Nat)),H⟩)) := by
  intro e
  induction e with
  | zero =>
    intro i h
    obtain rfl : i = m.emit.length := by omega
    refine ⟨0,?_⟩
    rw [if_neg (by rw [List.drop_length]; simp [xIv]),xSz]
    simp (maxSteps := 30000000) (disch := first | assumption | omega | (simp only [WL,AV.isCell] <;> omega) | rfl | decide) only [↓reduceIte,WB,xAu,xAc,xAt,xAk,xAj,AV.cells,AV.isCell,xAa,xAd,xAe,W2,xAf,xAg,xAh,Nat.reduceAdd,Nat.reduceSub,Nat.reduceLeDiff,Nat.reduceMul,Int.reduceAdd,Int.reduceSub,Int.reduceMul,Int.reduceLT,Int.reduceLE,Int.reduceEq,Int.reduceToNat,Int.reduceNeg,Nat.reduceEqDiff,Nat.reduceBEq,Nat.reduceLT,xAr,xAs,List.length_map,xIS,xHb,h3]
  | succ e ih =>
    intro i h
    have hlt : (i : Int) < (m.emit.length : Nat) := by omega
    obtain ⟨j,ih'⟩ := ih (i + 1) (by omega)
    have hrv : wdV (m.emit.getD i w0) = .sl (m.emit.getD i w0).z (m.emit.getD i w0).l.length (bs (m.emit.getD i w0).l) := rfl
    rw [xAT (a := w0) (by omega : i < m.emit.length)]
    have et : ∀ t,xIv (m.emit.getD i w0 :: t) = (decide (66 < (m.emit.getD i w0).l.length) || xIv t) := fun _ => rfl
    rw [et]
    by_cases c : 66 < (m.emit.getD i w0).l.length
    · have c' : (66 : Int) < ((m.emit.getD i w0).l.length : Nat) := by omega
      refine ⟨i,?_⟩
      rw [decide_eq_true c,Bool.true_or,if_pos rfl,xSz]
      simp (maxSteps := 30000000) (disch := first | assumption | omega | (simp only [WL,AV.isCell] <;> omega) | rfl | decide) only [↓reduceIte,WB,xAu,xAc,xAt,xAk,xAj,AV.cells,AV.isCell,xAa,xAd,xAe,W2,xAf,xAg,xAh,Nat.reduceAdd,Nat.reduceSub,Nat.reduceLeDiff,Nat.reduceMul,Int.reduceAdd,Int.reduceSub,Int.reduceMul,Int.reduceLT,Int.reduceLE,Int.reduceEq,Int.reduceToNat,Int.reduceNeg,Nat.reduceEqDiff,Nat.reduceBEq,Nat.reduceLT,xAr,xAs,List.length_map,xIS,xHb,h3,hlt,hrv,c']
    · have c' : ¬ (66 : Int) < ((m.emit.getD i w0).l.length : Nat) := by omega
      refine ⟨j,?_⟩
      rw [decide_eq_false c,Bool.false_or,xSz]
      by_cases e : xIv (m.emit.drop (i + 1)) = true
      · rw [if_pos e] at ih' ⊢
        simp (maxSteps := 30000000) (disch := first | assumption | omega | (simp only [WL,AV.isCell] <;> omega) | rfl | decide) only [↓reduceIte,WB,xAu,xAc,xAt,xAk,xAj,AV.cells,AV.isCell,xAa,xAd,xAe,W2,xAf,xAg,xAh,Nat.reduceAdd,Nat.reduceSub,Nat.reduceLeDiff,Nat.reduceMul,Int.reduceAdd,Int.reduceSub,Int.reduceMul,Int.reduceLT,Int.reduceLE,Int.reduceEq,Int.reduceToNat,Int.reduceNeg,Nat.reduceEqDiff,Nat.reduceBEq,Nat.reduceLT,xAr,xAs,List.length_map,xIS,xHb,h3,hlt,hrv,c',ih']
      · rw [if_neg e] at ih' ⊢
        simp (maxSteps := 30000000) (disch := first | assumption | omega | (simp only [WL,AV.isCell] <;> omega) | rfl | decide) only [↓reduceIte,WB,xAu,xAc,xAt,xAk,xAj,AV.cells,AV.isCell,xAa,xAd,xAe,W2,xAf,xAg,xAh,Nat.reduceAdd,Nat.reduceSub,Nat.reduceLeDiff,Nat.reduceMul,Int.reduceAdd,Int.reduceSub,Int.reduceMul,Int.reduceLT,Int.reduceLE,Int.reduceEq,Int.reduceToNat,Int.reduceNeg,Nat.reduceEqDiff,Nat.reduceBEq,Nat.reduceLT,xAr,xAs,List.length_map,xIS,xHb,h3,hlt,hrv,c',ih']
end
def xDg (ms : List Mf) : List AV := rows Mf.cells ms
theorem xLl (l : List Mf) : (xDg l).length = l.length * 5 := xOM (enc := Mf.cells) (k := 5) (fun _ => rfl) l
def m0 : Mf := ⟨0,0,0,true,[],true,[]⟩
theorem xN2 {l : List Mf} {i : Nat} (h : i < l.length) : List.drop (i * 5) (xDg l) = (l.getD i m0).cells ++ xDg (l.drop (i + 1)) := by
  unfold xDg
  rw [xNU (enc := Mf.cells) (k := 5) (fun _ => rfl),xAT (a := m0) h]
  rfl
theorem xWD {l : List Mf} {i : Nat} (h : i < l.length) : List.take 1 (List.drop (i * 5 + 3) (xDg l)) = [.sl (l.getD i m0).z (l.getD i m0).next.length ((l.getD i m0).next.map rwV)] := by
  rw [← List.drop_drop,xN2 h]; rfl
theorem xWE {l : List Mf} {i : Nat} (h : i < l.length) : List.take 1 (List.drop (i * 5 + 4) (xDg l)) = [.sl (l.getD i m0).ze (l.getD i m0).emit.length ((l.getD i m0).emit.map wdV)] := by
  rw [← List.drop_drop,xN2 h]; rfl
theorem xZe {ms : List Mf} {H : Heap} (hm : ms.length < 100) : ∀ e i,i + e = ms.length →
    ∃ j : Nat,L.loop xL1 xVL ⟨xIU (.sl false ms.length (xDg ms)) (.bool false) (.int .i64 (i : Nat)),H⟩ =
      some (if (ms.drop i).any xFb = true then (.ret,⟨xIU (.sl false ms.length (xDg ms)) (.bool true) (.int .i64 (j : Nat)),H⟩)
        else (.exit 0,⟨xIU (.sl false ms.length (xDg ms)) (.bool false) (.int .i64 (ms.length : Nat)),H⟩)) := by
  have hcl := xLl ms
  intro e
  induction e with
  | zero =>
    intro i h
    obtain rfl : i = ms.length := by omega
    refine ⟨0,?_⟩
    rw [if_neg (by rw [List.drop_length]; simp),xIV]
    simp (maxSteps := 30000000) (disch := first | assumption | omega | (simp only [WL,AV.isCell] <;> omega) | rfl | decide) only [↓reduceIte,WB,xAu,xAc,xAt,xAk,xAj,AV.cells,AV.isCell,xAa,xAd,xAe,W2,xAf,xAg,xAh,Nat.reduceAdd,Nat.reduceSub,Nat.reduceLeDiff,Nat.reduceMul,Int.reduceAdd,Int.reduceSub,Int.reduceMul,Int.reduceLT,Int.reduceLE,Int.reduceEq,Int.reduceToNat,Int.reduceNeg,Nat.reduceEqDiff,Nat.reduceBEq,Nat.reduceLT,xAr,xAs,List.length_map,xEJ,xEK]
  | succ e ih =>
    intro i h
    have hlt : (i : Int) < (ms.length : Nat) := by omega
    obtain ⟨j,ih'⟩ := ih (i + 1) (by omega)
    have h3 := xWD (l := ms) (i := i) (by omega)
    have h4 := xWE (l := ms) (i := i) (by omega)
    rw [xAT (a := m0) (by omega : i < ms.length),List.any_cons]
    generalize hM : ms.getD i m0 = m at *
    by_cases c1 : 14 < m.next.length
    · have e0 : xFb m = true := by simp [xFb,c1]
      have c1' : (14 : Int) < (m.next.length : Nat) := by omega
      refine ⟨i,?_⟩
      rw [e0,Bool.true_or,if_pos rfl,xIV]
      simp (maxSteps := 30000000) (disch := first | assumption | omega | (simp only [WL,AV.isCell] <;> omega) | rfl | decide) only [↓reduceIte,WB,xAu,xAc,xAt,xAk,xAj,AV.cells,AV.isCell,xAa,xAd,xAe,W2,xAf,xAg,xAh,Nat.reduceAdd,Nat.reduceSub,Nat.reduceLeDiff,Nat.reduceMul,Int.reduceAdd,Int.reduceSub,Int.reduceMul,Int.reduceLT,Int.reduceLE,Int.reduceEq,Int.reduceToNat,Int.reduceNeg,Nat.reduceEqDiff,Nat.reduceBEq,Nat.reduceLT,xAr,xAs,List.length_map,xEJ,xEK,hcl,h3,h4,hlt,c1']
    have c1' : ¬ (14 : Int) < (m.next.length : Nat) := by omega
    by_cases c2 : 16 < m.emit.length
    · have e0 : xFb m = true := by simp [xFb,c2]
      have c2' : (16 : Int) < (m.emit.length : Nat) := by omega
      refine ⟨i,?_⟩
      rw [e0,Bool.true_or,if_pos rfl,xIV]
      simp (maxSteps := 30000000) (disch := first | assumption | omega | (simp only [WL,AV.isCell] <;> omega) | rfl | decide) only [↓reduceIte,WB,xAu,xAc,xAt,xAk,xAj,AV.cells,AV.isCell,xAa,xAd,xAe,W2,xAf,xAg,xAh,Nat.reduceAdd,Nat.reduceSub,Nat.reduceLeDiff,Nat.reduceMul,Int.reduceAdd,Int.reduceSub,Int.reduceMul,Int.reduceLT,Int.reduceLE,Int.reduceEq,Int.reduceToNat,Int.reduceNeg,Nat.reduceEqDiff,Nat.reduceBEq,Nat.reduceLT,xAr,xAs,List.length_map,xEJ,xEK,hcl,h3,h4,hlt,c1',c2']
    have c2' : ¬ (16 : Int) < (m.emit.length : Nat) := by omega
    obtain ⟨j1,hr⟩ := yAX (H := H) (k := i) (nm := ms.length) (m := m) (by omega) hcl h3 (by omega) hm _ 0 (Nat.zero_add _)
    obtain ⟨j2,hw⟩ := yAY (H := H) (k := i) (nm := ms.length) (m := m) (by omega) hcl h4 (by omega) hm _ 0 (Nat.zero_add _)
    simp only [Int.natCast_zero,List.drop_zero] at hr hw
    have eM : xFb m = (xDa m.next || xIv m.emit) := by simp [xFb,c1,c2]
    rw [eM]
    by_cases c3 : xDa m.next = true
    · rw [if_pos c3] at hr
      refine ⟨i,?_⟩
      rw [c3,Bool.true_or,Bool.true_or,if_pos rfl,xIV]
      simp (maxSteps := 30000000) (disch := first | assumption | omega | (simp only [WL,AV.isCell] <;> omega) | rfl | decide) only [↓reduceIte,WB,xAu,xAc,xAt,xAk,xAj,AV.cells,AV.isCell,xAa,xAd,xAe,W2,xAf,xAg,xAh,Nat.reduceAdd,Nat.reduceSub,Nat.reduceLeDiff,Nat.reduceMul,Int.reduceAdd,Int.reduceSub,Int.reduceMul,Int.reduceLT,Int.reduceLE,Int.reduceEq,Int.reduceToNat,Int.reduceNeg,Nat.reduceEqDiff,Nat.reduceBEq,Nat.reduceLT,xAr,xAs,List.length_map,xEJ,xEK,xFR,hcl,h3,h4,hlt,c1',c2',hr]
    rw [if_neg c3] at hr
    by_cases c4 : xIv m.emit = true
    · rw [if_pos c4] at hw
      refine ⟨i,?_⟩
      rw [c4,Bool.or_true,Bool.true_or,if_pos rfl,xIV]
      simp (maxSteps := 30000000) (disch := first | assumption | omega | (simp only [WL,AV.isCell] <;> omega) | rfl | decide) only [↓reduceIte,WB,xAu,xAc,xAt,xAk,xAj,AV.cells,AV.isCell,xAa,xAd,xAe,W2,xAf,xAg,xAh,Nat.reduceAdd,Nat.reduceSub,Nat.reduceLeDiff,Nat.reduceMul,Int.reduceAdd,Int.reduceSub,Int.reduceMul,Int.reduceLT,Int.reduceLE,Int.reduceEq,Int.reduceToNat,Int.reduceNeg,Nat.reduceEqDiff,Nat.reduceBEq,Nat.reduceLT,xAr,xAs,List.length_map,xEJ,xEK,xFR,xHb,hcl,h3,h4,hlt,c1',c2',hr,hw]
    rw [if_neg c4] at hw
    have c3' : xDa m.next = false := by simpa using c3
    have c4' : xIv m.emit = false := by simpa using c4
    refine ⟨j,?_⟩
    rw [c3',c4',Bool.false_or,Bool.false_or,xIV]
    by_cases e : (ms.drop (i + 1)).any xFb = true
    · rw [if_pos e] at ih' ⊢
      simp (maxSteps := 30000000) (disch := first | assumption | omega | (simp only [WL,AV.isCell] <;> omega) | rfl | decide) only [↓reduceIte,WB,xAu,xAc,xAt,xAk,xAj,AV.cells,AV.isCell,xAa,xAd,xAe,W2,xAf,xAg,xAh,Nat.reduceAdd,Nat.reduceSub,Nat.reduceLeDiff,Nat.reduceMul,Int.reduceAdd,Int.reduceSub,Int.reduceMul,Int.reduceLT,Int.reduceLE,Int.reduceEq,Int.reduceToNat,Int.reduceNeg,Nat.reduceEqDiff,Nat.reduceBEq,Nat.reduceLT,xAr,xAs,List.length_map,xEJ,xEK,xFR,xHb,hcl,h3,h4,hlt,c1',c2',hr,hw,ih']
    · rw [if_neg e] at ih' ⊢
      simp (maxSteps := 30000000) (disch := first | assumption | omega | (simp only [WL,AV.isCell] <;> omega) | rfl | decide) only [↓reduceIte,WB,xAu,xAc,xAt,xAk,xAj,AV.cells,AV.isCell,xAa,xAd,xAe,W2,xAf,xAg,xAh,Nat.reduceAdd,Nat.reduceSub,Nat.reduceLeDiff,Nat.reduceMul,Int.reduceAdd,Int.reduceSub,Int.reduceMul,Int.reduceLT,Int.reduceLE,Int.reduceEq,Int.reduceToNat,Int.reduceNeg,Nat.reduceEqDiff,Nat.reduceBEq,Nat.reduceLT,xAr,xAs,List.length_map,xEJ,xEK,xFR,xHb,hcl,h3,h4,hlt,c1',c2',hr,hw,ih']
theorem yAZ (ms : List Mf) (hm : ms.length < 100) : L.pcall 11 [.sl false ms.length (xDg ms)] = some (.bool (ms.any xFb)) := by
  obtain ⟨j,h⟩ := xZe (ms := ms) (H := []) hm _ 0 (Nat.zero_add _)
  simp only [Int.natCast_zero,List.drop_zero] at h
  rw [yCw,a11,xAl]
  cases c : ms.any xFb with
  | true =>
    rw [if_pos c] at h
    simp (maxSteps := 30000000) (disch := first | assumption | omega | (simp only [WL,AV.isCell] <;> omega) | rfl | decide) only [↓reduceIte,WB,xAu,xAc,xAt,xAk,xAj,AV.cells,AV.isCell,xAa,xAd,xAe,W2,xAf,xAg,xAh,Nat.reduceAdd,Nat.reduceSub,Nat.reduceLeDiff,Nat.reduceMul,Int.reduceAdd,Int.reduceSub,Int.reduceMul,Int.reduceLT,Int.reduceLE,Int.reduceEq,Int.reduceToNat,Int.reduceNeg,Nat.reduceEqDiff,Nat.reduceBEq,Nat.reduceLT,xAr,xAs,List.length_map,xEK,h]
  | false =>
    rw [if_neg (by simp [c])] at h
    simp (maxSteps := 30000000) (disch := first | assumption | omega | (simp only [WL,AV.isCell] <;> omega) | rfl | decide) only [↓reduceIte,WB,xAu,xAc,xAt,xAk,xAj,AV.cells,AV.isCell,xAa,xAd,xAe,W2,xAf,xAg,xAh,Nat.reduceAdd,Nat.reduceSub,Nat.reduceLeDiff,Nat.reduceMul,Int.reduceAdd,Int.reduceSub,Int.reduceMul,Int.reduceLT,Int.reduceLE,Int.reduceEq,Int.reduceToNat,Int.reduceNeg,Nat.reduceEqDiff,Nat.reduceBEq,Nat.reduceLT,xAr,xAs,List.length_map,xEK,h]
theorem xWF (m : Mf) : L.pcall 11 [.sl false 1 m.cells] = some (.bool (xFb m)) := by
  have h := yAZ [m] (by simp)
  have e : xDg [m] = m.cells := by unfold xDg rows; simp
  rw [e] at h
  simpa using h
def xU5 (m : Nf) : Bool := decide (14 < m.next.length ∨ 16 < m.give.length) || xDa m.next
theorem xZf {m : Nf} (hI : InN m) : ∀ e i,i + e = m.next.length →
    ∃ j : Nat,L.loop xL7 xVP ⟨xI3 (.ptr 0 0) (.bool false) (.int .i64 (i : Nat)),[.cells false false m.cells]⟩ =
      some (if xDa (m.next.drop i) = true then (.ret,⟨xI3 (.ptr 0 0) (.bool true) (.int .i64 (j : Nat)),[.cells false false m.cells]⟩)
        else (.exit 0,⟨xI3 (.ptr 0 0) (.bool false) (.int .i64 (m.next.length : Nat)),[.cells false false m.cells]⟩)) := by
  have hn := hI.nl
  unfold Nf.cells
  intro e
  induction e with
  | zero =>
    intro i h
    obtain rfl : i = m.next.length := by omega
    refine ⟨0,?_⟩
    rw [if_neg (by rw [List.drop_length]; simp [xDa]),xSC]
    simp (maxSteps := 30000000) (disch := first | assumption | omega | (simp only [WL,AV.isCell] <;> omega) | rfl | decide) only [↓reduceIte,WB,xAu,xAc,xAt,xAk,xAj,AV.cells,AV.isCell,xAa,xAd,xAe,W2,xAf,xAg,xAh,Nat.reduceAdd,Nat.reduceSub,Nat.reduceLeDiff,Nat.reduceMul,Int.reduceAdd,Int.reduceSub,Int.reduceMul,Int.reduceLT,Int.reduceLE,Int.reduceEq,Int.reduceToNat,Int.reduceNeg,Nat.reduceEqDiff,Nat.reduceBEq,Nat.reduceLT,xAr,xAs,List.length_map,xI2,xFT]
  | succ e ih =>
    intro i h
    have hlt : (i : Int) < (m.next.length : Nat) := by omega
    obtain ⟨j,ih'⟩ := ih (i + 1) (by omega)
    have hrv : rwV (m.next.getD i r0) = .sl (m.next.getD i r0).z (m.next.getD i r0).l.length (xB4 (m.next.getD i r0).l) := rfl
    rw [xAT (a := r0) (by omega : i < m.next.length)]
    have et : ∀ t,xDa (m.next.getD i r0 :: t) = (decide (66 < (m.next.getD i r0).l.length) || xDa t) := fun _ => rfl
    rw [et]
    by_cases c : 66 < (m.next.getD i r0).l.length
    · have c' : (66 : Int) < ((m.next.getD i r0).l.length : Nat) := by omega
      refine ⟨i,?_⟩
      rw [decide_eq_true c,Bool.true_or,if_pos rfl,xSC]
      simp (maxSteps := 30000000) (disch := first | assumption | omega | (simp only [WL,AV.isCell] <;> omega) | rfl | decide) only [↓reduceIte,WB,xAu,xAc,xAt,xAk,xAj,AV.cells,AV.isCell,xAa,xAd,xAe,W2,xAf,xAg,xAh,Nat.reduceAdd,Nat.reduceSub,Nat.reduceLeDiff,Nat.reduceMul,Int.reduceAdd,Int.reduceSub,Int.reduceMul,Int.reduceLT,Int.reduceLE,Int.reduceEq,Int.reduceToNat,Int.reduceNeg,Nat.reduceEqDiff,Nat.reduceBEq,Nat.reduceLT,xAr,xAs,List.length_map,xI2,xFT,hlt,hrv,c']
    · have c' : ¬ (66 : Int) < ((m.next.getD i r0).l.length : Nat) := by omega
      refine ⟨j,?_⟩
      rw [decide_eq_false c,Bool.false_or,xSC]
      by_cases e : xDa (m.next.drop (i + 1)) = true
      · rw [if_pos e] at ih' ⊢
        simp (maxSteps := 30000000) (disch := first | assumption | omega | (simp only [WL,AV.isCell] <;> omega) | rfl | decide) only [↓reduceIte,WB,xAu,xAc,xAt,xAk,xAj,AV.cells,AV.isCell,xAa,xAd,xAe,W2,xAf,xAg,xAh,Nat.reduceAdd,Nat.reduceSub,Nat.reduceLeDiff,Nat.reduceMul,Int.reduceAdd,Int.reduceSub,Int.reduceMul,Int.reduceLT,Int.reduceLE,Int.reduceEq,Int.reduceToNat,Int.reduceNeg,Nat.reduceEqDiff,Nat.reduceBEq,Nat.reduceLT,xAr,xAs,List.length_map,xI2,xFT,hlt,hrv,c',ih']
      · rw [if_neg e] at ih' ⊢
        simp (maxSteps := 30000000) (disch := first | assumption | omega | (simp only [WL,AV.isCell] <;> omega) | rfl | decide) only [↓reduceIte,WB,xAu,xAc,xAt,xAk,xAj,AV.cells,AV.isCell,xAa,xAd,xAe,W2,xAf,xAg,xAh,Nat.reduceAdd,Nat.reduceSub,Nat.reduceLeDiff,Nat.reduceMul,Int.reduceAdd,Int.reduceSub,Int.reduceMul,Int.reduceLT,Int.reduceLE,Int.reduceEq,Int.reduceToNat,Int.reduceNeg,Nat.reduceEqDiff,Nat.reduceBEq,Nat.reduceLT,xAr,xAs,List.length_map,xI2,xFT,hlt,hrv,c',ih']
theorem yA0 {m : Nf} (hI : InN m) : L.pcall 30 [m.av] = some (.bool (xU5 m)) := by
  obtain ⟨j,h⟩ := xZf hI _ 0 (Nat.zero_add _)
  simp only [Int.natCast_zero,List.drop_zero] at h
  unfold Nf.av
  unfold xU5
  unfold Nf.cells at h ⊢
  rw [yCz,a30,xAl]
  by_cases c : xDa m.next = true
  · rw [if_pos c] at h
    rw [c,Bool.or_true]
    simp (maxSteps := 30000000) (disch := first | assumption | omega | (simp only [WL,AV.isCell] <;> omega) | rfl | decide) only [↓reduceIte,WB,xAu,xAc,xAt,xAk,xAj,AV.cells,AV.isCell,xAa,xAd,xAe,W2,xAf,xAg,xAh,Nat.reduceAdd,Nat.reduceSub,Nat.reduceLeDiff,Nat.reduceMul,Int.reduceAdd,Int.reduceSub,Int.reduceMul,Int.reduceLT,Int.reduceLE,Int.reduceEq,Int.reduceToNat,Int.reduceNeg,Nat.reduceEqDiff,Nat.reduceBEq,Nat.reduceLT,xAr,xAs,List.length_map,xFT,h]
  · rw [if_neg c] at h
    have c3' : xDa m.next = false := by simpa using c
    rw [c3',Bool.or_false]
    by_cases c1 : 14 < m.next.length
    · have c1' : (14 : Int) < (m.next.length : Nat) := by omega
      rw [decide_eq_true (Or.inl c1)]
      simp (maxSteps := 30000000) (disch := first | assumption | omega | (simp only [WL,AV.isCell] <;> omega) | rfl | decide) only [↓reduceIte,WB,xAu,xAc,xAt,xAk,xAj,AV.cells,AV.isCell,xAa,xAd,xAe,W2,xAf,xAg,xAh,Nat.reduceAdd,Nat.reduceSub,Nat.reduceLeDiff,Nat.reduceMul,Int.reduceAdd,Int.reduceSub,Int.reduceMul,Int.reduceLT,Int.reduceLE,Int.reduceEq,Int.reduceToNat,Int.reduceNeg,Nat.reduceEqDiff,Nat.reduceBEq,Nat.reduceLT,xAr,xAs,List.length_map,xFT,h,c1']
    · have c1' : ¬ (14 : Int) < (m.next.length : Nat) := by omega
      by_cases c2 : 16 < m.give.length
      · have c2' : (16 : Int) < (m.give.length : Nat) := by omega
        rw [decide_eq_true (Or.inr c2)]
        simp (maxSteps := 30000000) (disch := first | assumption | omega | (simp only [WL,AV.isCell] <;> omega) | rfl | decide) only [↓reduceIte,WB,xAu,xAc,xAt,xAk,xAj,AV.cells,AV.isCell,xAa,xAd,xAe,W2,xAf,xAg,xAh,Nat.reduceAdd,Nat.reduceSub,Nat.reduceLeDiff,Nat.reduceMul,Int.reduceAdd,Int.reduceSub,Int.reduceMul,Int.reduceLT,Int.reduceLE,Int.reduceEq,Int.reduceToNat,Int.reduceNeg,Nat.reduceEqDiff,Nat.reduceBEq,Nat.reduceLT,xAr,xAs,List.length_map,xFT,h,c1',c2']
      · have c2' : ¬ (16 : Int) < (m.give.length : Nat) := by omega
        rw [decide_eq_false (by omega)]
        simp (maxSteps := 30000000) (disch := first | assumption | omega | (simp only [WL,AV.isCell] <;> omega) | rfl | decide) only [↓reduceIte,WB,xAu,xAc,xAt,xAk,xAj,AV.cells,AV.isCell,xAa,xAd,xAe,W2,xAf,xAg,xAh,Nat.reduceAdd,Nat.reduceSub,Nat.reduceLeDiff,Nat.reduceMul,Int.reduceAdd,Int.reduceSub,Int.reduceMul,Int.reduceLT,Int.reduceLE,Int.reduceEq,Int.reduceToNat,Int.reduceNeg,Nat.reduceEqDiff,Nat.reduceBEq,Nat.reduceLT,xAr,xAs,List.length_map,xFT,h,c1',c2']
theorem xWG {m : Mf} (hI : In m) (h : xFb m = false) : Sm m := by
  unfold xFb at h
  simp only [Bool.or_eq_false_iff,decide_eq_false_iff_not,xDa,xIv,List.any_eq_false] at h
  obtain ⟨⟨h1,h2⟩,h3⟩ := h
  refine ⟨hI.i,hI.o,by omega,by omega,fun r hr => ?_,fun w hw => ?_,hI.b⟩
  · have := h2 r hr
    simp at this; omega
  · have := h3 w hw
    simp at this; omega
theorem xWH {m : Nf} (hI : InN m) (h : xU5 m = false) : SmN m := by
  unfold xU5 at h
  simp only [Bool.or_eq_false_iff,decide_eq_false_iff_not,xDa,List.any_eq_false] at h
  obtain ⟨h1,h2⟩ := h
  refine ⟨hI.i,hI.o,by omega,by omega,fun r hr => ?_,hI.b⟩
  have := h2 r hr
  simp at this; omega
theorem yB8 {M : Ma} {p q : List Nat} (hV : Vm M) (hL : Lo M.i p q) (i : Nat) : SL M p q i = lt2 M.i (xAY p q i) (em M (it (xBy M p q) (M.s,0) i).1 (xAY p q i)) := by
  have hc := xIn hV hL i
  show lt2 M.i (ltr p q (it (xBy M p q) (M.s,0) i).2) _ = _
  rw [hc.2,xOQ hL.q0]
theorem xQP {a i o : Nat} (hi : i < two a) : lt2 a i o &&& (two a - 1) = i := by
  unfold lt2 two at *
  rw [Nat.and_two_pow_sub_one_eq_mod,Nat.add_mul_mod_self_right,Nat.mod_eq_of_lt hi]
section
variable {M : Ma} {p q p' q' : List Nat} {n : Nat} {G : Heap} {zw za z1' z2' : Bool} {s4 : AV}
end
theorem two_sub' {a : Nat} (h : a ≤ 6) : IntKind.u8.wrap (1 * 2 ^ min a IntKind.u8.bits) = (two a : Nat) ∧ IntKind.u8.wrap (((two a : Nat) : Int) - 1) = ((two a - 1 : Nat) : Int) := by
  have : a = 0 ∨ a = 1 ∨ a = 2 ∨ a = 3 ∨ a = 4 ∨ a = 5 ∨ a = 6 := by omega
  rcases this with rfl | rfl | rfl | rfl | rfl | rfl | rfl <;> decide
theorem xKC (M : Ma) (N : Mo) : ∀ k,cfg M N k = it (xRD M N) (M.s,N.s) k
  | 0 => rfl
  | k + 1 => by rw [cfg,it,xKC M N k]
theorem xQQ (M : Ma) (N : Mo) (n : Nat) : xGi M N n = its (xRD M N) (M.s,N.s) n := by
  unfold xGi its
  congr 1
  funext k
  exact xKC M N k
theorem xWI (M : Ma) (N : Mo) (n : Nat) : xN0 M N n = lts (xRD M N) (xZa M N) (M.s,N.s) n := by
  unfold xN0 lts
  congr 1
  funext k
  rw [xKC M N k]
def SP (M : Ma) (N : Mo) (j : Nat) : Nat := xZa M N (cfg M N j)
theorem xWJ {M : Ma} {N : Mo} {n : Nat} (h : EndP M N n) : xAY ((xN0 M N n).take (pos (cfg M N n) (xGi M N n))) ((xN0 M N n).drop (pos (cfg M N n) (xGi M N n))) = SP M N := by
  funext j
  have h2 := h.2
  rw [xKC,xQQ] at h2
  have := xU1 (g := xZa M N) h2 j
  rw [xKC,xQQ,xWI,this,← xKC]
  rfl
section
variable {M : Ma} {N : Mo}
def SI (M : Ma) (N : Mo) (j : Nat) : Nat := gv N (cfg M N j).2
theorem xU6 (hO : Ok2 M N) (j : Nat) : SI M N j < two M.i := by
  have := hO.n.gv (xKA hO j).2
  rwa [hO.i] at this
theorem xWK (M : Ma) (N : Mo) (j : Nat) : SP M N j = lt2 M.i (SI M N j) (em M (cfg M N j).1 (SI M N j)) := rfl
theorem yB9 (hO : Ok2 M N) (j : Nat) : SP M N j < 64 := by
  rw [xWK]
  exact (xQN hO.m.io (xU6 hO j) (hO.m.em (xKA hO j).1 (xU6 hO j))).2.1
theorem xKD (hO : Ok2 M N) {pp qq : List Nat} (hL : Lo M.i pp qq) (hs : ∀ j,xAY pp qq j = SI M N j) : ∀ j,(it (xBy M pp qq) (M.s,0) j).1 = (cfg M N j).1
  | 0 => rfl
  | j + 1 => by
    have ih := xKD hO hL hs j
    have hc := xIn hO.m hL j
    show nx M (it (xBy M pp qq) (M.s,0) j).1 (ltr pp qq (it (xBy M pp qq) (M.s,0) j).2) = _
    rw [hc.2,xOQ hL.q0,hs,ih]
    rfl
theorem yCa (hO : Ok2 M N) {pp qq : List Nat} (hL : Lo M.i pp qq) (hs : ∀ j,xAY pp qq j = SI M N j) (j : Nat) : SL M pp qq j = SP M N j := by
  rw [yB8 hO.m hL,hs,xKD hO hL hs,xWK]
theorem xRH {pp qq : List Nat} {f : Nat → Nat} {b : Nat} (hs : ∀ j,xAY pp qq j = f j) (hf : ∀ j,f j < b) : (∀ x ∈ pp,x < b) ∧ ∀ x ∈ qq,x < b := by
  constructor
  · intro x hx
    obtain ⟨i,hi,rfl⟩ := List.mem_iff_getElem.1 hx
    have := hs i
    rw [xD0 hi,List.getD_eq_getElem?_getD,List.getElem?_eq_getElem hi] at this
    simp only [Option.getD_some] at this
    rw [this]; exact hf i
  · intro x hx
    obtain ⟨i,hi,rfl⟩ := List.mem_iff_getElem.1 hx
    have := hs (pp.length + i)
    rw [xBd (by omega),xBZ (by omega),Nat.add_sub_cancel_left,Nat.mod_eq_of_lt hi,List.getD_eq_getElem?_getD,List.getElem?_eq_getElem hi] at this
    simp only [Option.getD_some] at this
    rw [this]; exact hf _
theorem xZg {a b i o : Nat} (h : a + b ≤ 6) (hi : i < two a) (ho : o < two b) : ((lt2 a i o : Nat) : Int).fdiv (2 ^ min a IntKind.u8.bits) = ((o : Nat) : Int) := by
  have e : min a IntKind.u8.bits = a := by show min a 8 = a; omega
  rw [e]
  have e2 : (2 : Int) ^ a = ((two a : Nat) : Int) := by unfold two; rw [Int.natCast_pow]; rfl
  rw [e2,Int.fdiv_eq_ediv_of_nonneg _ (by omega),← Int.natCast_ediv]
  congr 1
  unfold lt2
  rw [Nat.add_mul_div_right _ _ (xOK a),Nat.div_eq_of_lt hi,Nat.zero_add]
variable {p' q' : List Nat} {n : Nat} {G : Heap} {z1' z2' : Bool}
set_option maxRecDepth 100000 in
set_option maxHeartbeats 4000000 in
theorem xRI (hO : Ok2 M N) (hn : n < 256) (hp' : p'.length ≤ 20000000) (hq' : q'.length ≤ 20000000) (hz : z1' = true → p' = []) (hS : ∀ j,xAY p' q' j = SP M N j)
    (h0 : G[0]? = some (.cells false false M.cells)) (h1 : G[1]? = some (.cells false false N.cells)) (h2 : G[2]? = some (.cells false false [xBc z1' p',xBc z2' q'])) : ∀ e i,i + e = n →
    L.loop xSw yA3 ⟨xSx (.int .u8 (n : Nat)) (.ptr 0 0) (.ptr 1 0) (.bool false) (.ptr 2 0) (.int .i64 ((cfg M N i).2 : Nat)) (.int .i64 (i : Nat)),G⟩ =
      some (.exit 0,⟨xSx (.int .u8 (n : Nat)) (.ptr 0 0) (.ptr 1 0) (.bool false) (.ptr 2 0) (.int .i64 ((cfg M N n).2 : Nat)) (.int .i64 (n : Nat)),G⟩) := by
  have io := hO.m.io
  obtain ⟨t1,t2⟩ := two_sub' (a := M.i) (by omega)
  have hb6 := xDf (v := M.i) (by omega)
  have hbO := (xDf (v := N.o) (by rw [hO.o]; omega)).1
  unfold Ma.cells at h0
  unfold Mo.cells at h1
  intro e
  induction e with
  | zero =>
    intro i h
    obtain rfl : i = n := by omega
    rw [xZu]
    simp (maxSteps := 30000000) (disch := first | assumption | omega | (simp only [WL,AV.isCell] <;> omega) | rfl | decide) only [↓reduceIte,WB,xAu,xAc,xAt,xAk,xAj,AV.cells,AV.isCell,xAa,xAd,xAe,WP,xAH,xAA,xBz,xBw,xBn,xAF,xAM,xAJ,W2,xAf,xAg,xAh,Nat.reduceAdd,Nat.reduceSub,Nat.reduceLeDiff,Nat.reduceMul,Int.reduceAdd,Int.reduceSub,Int.reduceMul,Int.reduceLT,Int.reduceLE,Int.reduceEq,Int.reduceToNat,Int.reduceNeg,Nat.reduceEqDiff,Nat.reduceBEq,Nat.reduceLT,xAZ,xA0,xD1,xFc,List.length_map,xVH,xVI]
  | succ e ih =>
    intro i h
    have hlt : (i : Int) < (n : Nat) := by omega
    have ih' := ih (i + 1) (by omega)
    have hc := xKA hO i
    have hat := yAM (xOH (z2 := z2') hz hp' hq') (by omega) (show i < 1099511627776 by omega)
    rw [hS,xWK] at hat
    have hx := xU6 hO i
    have ho := hO.m.em hc.1 hx
    have hlt2 := xQN io hx ho
    have hshr := xZg io hx ho
    have hmask := xQP (o := em M (cfg M N i).1 (SI M N i)) hx
    have hand : xEi .and .u8 ((lt2 M.i (SI M N i) (em M (cfg M N i).1 (SI M N i)) : Nat) : Int) ((two M.i - 1 : Nat) : Int) = ((SI M N i : Nat) : Int) := by
      rw [yCr (by omega) (by omega),hmask]
    have l3 := hO.n.nl hc.2
    have l4 := hO.n.gl
    have hg : N.give.getD (cfg M N i).2 0 = SI M N i := rfl
    have hnx : (cfg M N (i + 1)).2 = nxo N (cfg M N i).2 (em M (cfg M N i).1 (SI M N i)) := rfl
    rw [hnx] at ih'
    unfold nxo at ih'
    rw [← hO.o] at ho
    generalize em M (cfg M N i).1 (SI M N i) = o at *
    generalize SI M N i = x at *
    generalize cfg M N i = c at *
    generalize lt2 M.i x o = y at *
    have hon : ¬ ((two N.o : Nat) : Int) ≤ ((o : Nat) : Int) := by omega
    have hi0 : ¬ ((M.i : Nat) : Int) < 0 := by omega
    have hcc := hc.2
    simp only [las] at hat
    rw [xZu]
    simp (maxSteps := 30000000) (disch := first | assumption | omega | (simp only [WL,AV.isCell] <;> omega) | rfl | decide) only [↓reduceIte,WB,xAu,xAc,xAt,xAk,xAj,AV.cells,AV.isCell,xAa,xAd,xAe,WP,xAH,xAA,xBz,xBw,xBn,xAF,xAM,xAJ,W2,xAf,xAg,xAh,Nat.reduceAdd,Nat.reduceSub,Nat.reduceLeDiff,Nat.reduceMul,Int.reduceAdd,Int.reduceSub,Int.reduceMul,Int.reduceLT,Int.reduceLE,Int.reduceEq,Int.reduceToNat,Int.reduceNeg,Nat.reduceEqDiff,Nat.reduceBEq,Nat.reduceLT,xAZ,xA0,xD1,xFc,List.length_map,xVH,xVI,hlt,h0,h1,h2,hat,t1,t2,hand,l3,l4,hg,hcc,hshr,hon,ho,hi0,ih']
end
end Go.Abs.Mealy
