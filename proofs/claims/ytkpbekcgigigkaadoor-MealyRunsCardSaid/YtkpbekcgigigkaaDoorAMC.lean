/- A heap that is not looked into: words for its reads and xA9; a map's entries that number their keys. -/
import Derived.Test.YtkpbekcgigigkaaDoorAMA
import Derived.Test.YtkpbekcgigigkaaDoorAbsWalk2
import Derived.Test.YtkpbekcgigigkaaDoorAbsBun
import Derived.Test.YtkpbekcgigigkaaDoorAMB
import Derived.Test.YtkpbekcgigigkaaDoorAbsIn
namespace Go.Abs.Mealy
open Go Go.Abs
set_option linter.unusedSimpArgs false
set_option linter.unusedVariables false
section
variable {G l : Heap} {b : Blk} {f : Blk → Blk} {j k n : Nat}
theorem xBE (h : k < G.length) : (G ++ l)[k]? = G[k]? := List.getElem?_append_left h
theorem xB5 (h : G.length = n) : (G ++ l)[n + k]? = l[k]? := by subst h; exact xRm G l k
theorem xCt (h : G.length = n) : (G ++ l)[n]? = l[0]? := by subst h; exact xSE G l
theorem xCI (h : k < G.length) : (G ++ l).set k b = G.set k b ++ l := List.set_append_left k b h
theorem xCJ (h : G.length = n) : (G ++ l).set (n + k) b = G ++ l.set k b := by subst h; exact xCL G l k b
theorem xCK (h : G.length = n) : (G ++ l).set n b = G ++ l.set 0 b := by subst h; exact xSF G l b
theorem yBI (h : k < G.length) : (G ++ l).modify k f = G.modify k f ++ l := by
  apply List.ext_getElem?
  intro i
  by_cases e : i < G.length
  · rw [List.getElem?_append_left (by simpa using e),List.getElem?_modify,List.getElem?_modify,List.getElem?_append_left e]
  · rw [List.getElem?_append_right (by simpa using e),List.getElem?_modify,List.getElem?_append_right (by omega),List.length_modify]
    have : ¬ k = i := by omega
    simp [this]
theorem xBG (h : j ≠ k) : (G.set j b)[k]? = G[k]? := List.getElem?_set_ne h
theorem xCi (h : k < G.length) : (G.set k b)[k]? = some b := List.getElem?_set_self h
theorem yAs (h : j ≠ k) : (G.modify j f)[k]? = G[k]? := by rw [List.getElem?_modify]; simp [h]
theorem xNO {x : Blk} (h : G[k]? = some x) : k < G.length := (List.getElem?_eq_some_iff.1 h).1
end
def xYM (neg : Bool) (H : Heap) : AV → Option (AV × Heap)
  | .nilm => some (.bool (true != neg),H)
  | .mp _ => some (.bool (false != neg),H)
  | _ => none
theorem xIb (neg : Bool) (H : Heap) : xYM neg H .nilm = some (.bool (!neg),H) := by cases neg <;> rfl
theorem xK3 (neg : Bool) (H : Heap) (q : Nat) : xYM neg H (.mp q) = some (.bool neg,H) := by cases neg <;> rfl
theorem xOz (R : Rec) (F : List AV) (H : Heap) (neg : Bool) (x : Arg) : xAa R F H (.mnil neg x) = xYM neg H (opv F x) := rfl
theorem xK4 (R : Rec) (F : List AV) (H : Heap) (ks : List Nat) (c : Bool) (z : AV) (x k : Arg) : xAS R F H (.mlook ks c z x k) = xDR H (xAa R F H (.mlook ks c z x k)) := xCa _ rfl
def Kt (B T : Nat) (G G' : Heap) : Prop := G.length ≤ G'.length ∧ ∀ b,b < B → b ≠ T → G'[b]? = G[b]?
theorem Kt.refl (B T : Nat) (G : Heap) : Kt B T G G := ⟨Nat.le_refl _,fun _ _ _ => rfl⟩
theorem Kt.trans {B T : Nat} {G G' G2 : Heap} (h : Kt B T G G') (h2 : Kt B T G' G2) : Kt B T G G2 := ⟨Nat.le_trans h.1 h2.1,fun b hb ht => (h2.2 b hb ht).trans (h.2 b hb ht)⟩
def ent {α : Type} (kv : α → AV) : List α → Nat → List (AV × AV)
  | [],_ => []
  | a :: t,i => (kv a,.int .i64 (i : Nat)) :: ent kv t (i + 1)
def xYN {α : Type} [DecidableEq α] (kv : α → AV) : Prop := ∀ a b,xBU (kv a) (kv b) = some (decide (a = b))
section
variable {α : Type} {kv : α → AV}
variable [DecidableEq α]
def pos (a : α) : List α → Nat
  | [] => 0
  | b :: t => if a = b then 0 else pos a t + 1
theorem xUw {a : α} : ∀ {ks : List α},a ∈ ks → pos a ks < ks.length
  | b :: t,h => by
    unfold pos
    by_cases c : a = b
    · rw [if_pos c]; simp
    · rw [if_neg c]
      have := xUw ((List.mem_cons.1 h).resolve_left c)
      rw [List.length_cons]; omega
theorem xXq {a d : α} : ∀ {ks : List α},a ∈ ks → ks.getD (pos a ks) d = a
  | b :: t,h => by
    unfold pos
    by_cases c : a = b
    · rw [if_pos c]; exact c.symm
    · rw [if_neg c,List.getD_cons_succ]
      exact xXq ((List.mem_cons.1 h).resolve_left c)
theorem xK5 (hk : xYN kv) (a : α) : ∀ (ks : List α) (i : Nat),xFj (kv a) (ent kv ks i) = some (if a ∈ ks then some (.int .i64 ((i + pos a ks : Nat))) else none)
  | [],i => by simp [ent,xFj]
  | b :: t,i => by
    have ih := xK5 hk a t (i + 1)
    rw [ent,xFj,hk a b]
    unfold pos
    by_cases c : a = b
    · subst c
      rw [decide_eq_true rfl]
      simp
    · rw [decide_eq_false c,if_neg c]
      simp only [ih]
      by_cases m : a ∈ t
      · rw [if_pos m,if_pos (List.mem_cons_of_mem _ m),show i + 1 + pos a t = i + (pos a t + 1) by omega]
      · rw [if_neg m,if_neg (by simp [c,m])]
theorem xUx (hk : xYN kv) (a : α) : ∀ (ks : List α) (i : Nat),a ∉ ks → xRT (kv a) (.int .i64 ((i + ks.length : Nat))) (ent kv ks i) = some (ent kv (ks ++ [a]) i)
  | [],i,_ => rfl
  | b :: t,i,h => by
    have ih := xUx hk a t (i + 1) (fun m => h (List.mem_cons_of_mem _ m))
    have c : ¬ a = b := fun e => h (by simp [e])
    rw [List.length_cons,show i + (t.length + 1) = i + 1 + t.length by omega,ent,xRT,hk a b,decide_eq_false c]
    simp only [ih,Option.map_some]
    rfl
end
def kv2 (p : Nat × Nat) : AV := .agg [.int .i64 (p.1 : Nat),.int .i64 (p.2 : Nat)]
theorem xUy : xYN kv2 := by
  intro a b
  obtain ⟨a1,a2⟩ := a
  obtain ⟨b1,b2⟩ := b
  have e : xBU (kv2 (a1,a2)) (kv2 (b1,b2)) = some (((a1 : Int) == (b1 : Int)) && (((a2 : Int) == (b2 : Int)) && true)) := rfl
  rw [e,Bool.and_true]
  congr 1
  by_cases c1 : a1 = b1
  · subst c1
    by_cases c2 : a2 = b2
    · subst c2; simp
    · rw [decide_eq_false (fun h => c2 (by injection h))]
      have : ¬ (a2 : Int) = b2 := by omega
      simp [this]
  · rw [decide_eq_false (fun h => c1 (by injection h))]
    have : ¬ (a1 : Int) = b1 := by omega
    simp [this]
theorem xQw : ∀ (n : Nat) (l : List Nat),l.Nodup → (∀ x ∈ l,x < n) → l.length ≤ n
  | 0,[],_,_ => Nat.le_refl _
  | 0,x :: t,_,h => absurd (h x (by simp)) (by omega)
  | n + 1,l,hd,h => by
    have h1 := xQw n (l.filter (fun x => decide (x ≠ n))) (hd.filter _) (fun x hx => by
      have := List.mem_filter.1 hx
      have h2 := h x this.1
      have h3 := of_decide_eq_true this.2
      omega)
    have h2 : ∀ l : List Nat,l.Nodup → l.length ≤ (l.filter (fun x => decide (x ≠ n))).length + 1 := by
      intro l hd
      induction l with
      | nil => simp
      | cons x t ih =>
        rw [List.nodup_cons] at hd
        by_cases e : x = n
        · subst e
          have : t.filter (fun y => decide (y ≠ x)) = t := List.filter_eq_self.2 fun y hy => by
            simp only [ne_eq,decide_eq_true_eq]
            rintro rfl; exact hd.1 hy
          rw [List.filter_cons_of_neg (by simp),this]; simp
        · have := ih hd.2
          simp [List.filter_cons,e] at this ⊢
          omega
    have := h2 l hd
    omega
theorem xIc {n m : Nat} {l : List (Nat × Nat)} (hd : l.Nodup) (h : ∀ x ∈ l,x.1 < n ∧ x.2 < m) : l.length ≤ n * m := by
  have h1 : (l.map fun x => x.1 * m + x.2).Nodup := by
    rw [List.nodup_iff_pairwise_ne,List.pairwise_map]
    refine List.Pairwise.imp_of_mem ?_ (List.nodup_iff_pairwise_ne.1 hd)
    intro a b ha hb hne e
    have h1 := h a ha
    have h2 := h b hb
    apply hne
    have e1 : a.1 = b.1 := by
      have h3 : (a.1 * m + a.2) / m = a.1 := by rw [Nat.mul_comm,Nat.mul_add_div (by omega),Nat.div_eq_of_lt h1.2]; omega
      have h4 : (b.1 * m + b.2) / m = b.1 := by rw [Nat.mul_comm,Nat.mul_add_div (by omega),Nat.div_eq_of_lt h2.2]; omega
      rw [← h3,← h4,e]
    have e2 : a.2 = b.2 := by rw [e1] at e; omega
    exact Prod.ext e1 e2
  have := xQw (n * m) _ h1 (by
    intro x hx
    obtain ⟨a,ha,rfl⟩ := List.mem_map.1 hx
    have h1 := h a ha
    have : (a.1 + 1) * m ≤ n * m := Nat.mul_le_mul_right m (by omega)
    rw [Nat.add_mul,Nat.one_mul] at this
    omega)
  rwa [List.length_map] at this
def TrI (B T : Nat) (G : Heap) (ks : List (Nat × Nat)) (w : List Nat) : Prop :=
  ∃ mv wv,G[T]? = some (.cells false false [mv,wv]) ∧
    ((mv = .nilm ∧ ks = []) ∨ ∃ q,mv = .mp q ∧ B ≤ q ∧ G[q]? = some (.mp (ent kv2 ks 0))) ∧
    ((wv = .sl true 0 [] ∧ w = []) ∨ ∃ p,wv = .own false p 0 w.length 1 ∧ B ≤ p ∧ G[p]? = some (.cells false false (bs w)))
abbrev xNP : AV := .agg [.sl true 0 [],.sl true 0 []]
section
variable {B T : Nat} {G : Heap} {ks : List (Nat × Nat)} {w : List Nat} {k : Nat × Nat}
theorem xV8 (hT : T < B) (hB : B ≤ G.length) (h : TrI B T G ks w) (hk : k ∉ ks) (hl : w.length = ks.length) (hw : w.length < 1099511627776) :
    ∃ G',L.icall (.func 54 []) [.ptr T 0,kv2 k] G = some (.tup [xNP,.bool false],G') ∧ TrI B T G' (ks ++ [k]) w ∧ Kt B T G G' := by
  obtain ⟨mv,wv,h1,h2,h3⟩ := h
  obtain ⟨k1,k2⟩ := k
  have hu := xUx xUy (k1,k2) ks 0 hk
  have hf := xK5 xUy (k1,k2) ks 0
  rw [if_neg hk] at hf
  rw [Nat.zero_add,← hl] at hu
  have hG := xNO h1
  have hlen : yAH wv = some (.int .i64 (w.length : Nat)) := by
    rcases h3 with ⟨rfl,rfl⟩ | ⟨p,rfl,hp,hpw⟩ <;> rfl
  have hcell : wv.isCell = true := by
    rcases h3 with ⟨rfl,rfl⟩ | ⟨p,rfl,hp,hpw⟩ <;> rfl
  simp only [kv2] at hu hf ⊢
  rcases h2 with ⟨rfl,rfl⟩ | ⟨q,rfl,hq,hqm⟩
  · have hu' : xRT (.agg [.int .i64 (k1 : Nat),.int .i64 (k2 : Nat)]) (.int .i64 (w.length : Nat)) [] = some (ent kv2 [(k1,k2)] 0) := hu
    refine ⟨G.set T (.cells false false [.mp (G.length + 2),wv]) ++ [.cells false false [.int .i64 (k1 : Nat),.int .i64 (k2 : Nat)],.cells false false [.sl true 0 [],.sl true 0 []],.mp (ent kv2 [(k1,k2)] 0)],?_,⟨.mp (G.length + 2),wv,?_,.inr ⟨G.length + 2,rfl,by omega,?_⟩,?_⟩,?_,?_⟩
    · rw [yA7,a54]
      simp (maxSteps := 30000000) (disch := first | assumption | omega | (simp only [WL,AV.isCell,List.length_modify] <;> omega) | rfl | decide) only [↓reduceIte,WB,xAs,xAc,xAr,xAk,xAj,AV.cells,AV.isCell,xAb,xAd,xAe,WP,xAF,xAt,xBj,xBh,xBd,xAz,xAI,xAG,WM,W2,xAf,xAg,xAh,Nat.reduceAdd,Nat.reduceSub,Nat.reduceLeDiff,Nat.reduceMul,Int.reduceAdd,Int.reduceSub,Int.reduceMul,Int.reduceLT,Int.reduceLE,Int.reduceEq,Int.reduceToNat,Int.reduceNeg,Nat.reduceEqDiff,Nat.reduceBEq,Nat.reduceLT,xBE,xB5,xCt,xCI,xCJ,xCK,yBI,xBG,xCi,yAs,List.length_modify,xOz,xIb,xK3,xK4,xFt,xEf,xEg,List.set_set,h1,hu',hlen,hcell,xFj]
    · rw [xBE (by simpa using hG),xCi hG]
    · rw [xB5 (by simp)]; rfl
    · rcases h3 with h3 | ⟨p,rfl,hp,hpw⟩
      · exact .inl h3
      · have := xNO hpw
        exact .inr ⟨p,rfl,hp,by rw [xBE (by simpa using this),xBG (by rintro rfl; omega),hpw]⟩
    · simp
    · intro b hb ht
      rw [xBE (by simp; omega),xBG (fun e => ht e.symm)]
  · have hGq := xNO hqm
    refine ⟨G.set q (.mp (ent kv2 (ks ++ [(k1,k2)]) 0)) ++ [.cells false false [.int .i64 (k1 : Nat),.int .i64 (k2 : Nat)],.cells false false [.sl true 0 [],.sl true 0 []]],?_,⟨.mp q,wv,?_,.inr ⟨q,rfl,hq,?_⟩,?_⟩,?_,?_⟩
    · rw [yA7,a54]
      simp (maxSteps := 30000000) (disch := first | assumption | omega | (simp only [WL,AV.isCell,List.length_modify] <;> omega) | rfl | decide) only [↓reduceIte,WB,xAs,xAc,xAr,xAk,xAj,AV.cells,AV.isCell,xAb,xAd,xAe,WP,xAF,xAt,xBj,xBh,xBd,xAz,xAI,xAG,WM,W2,xAf,xAg,xAh,Nat.reduceAdd,Nat.reduceSub,Nat.reduceLeDiff,Nat.reduceMul,Int.reduceAdd,Int.reduceSub,Int.reduceMul,Int.reduceLT,Int.reduceLE,Int.reduceEq,Int.reduceToNat,Int.reduceNeg,Nat.reduceEqDiff,Nat.reduceBEq,Nat.reduceLT,xBE,xB5,xCt,xCI,xCJ,xCK,yBI,xBG,xCi,yAs,List.length_modify,xOz,xIb,xK3,xK4,xFt,xEf,xEg,List.set_set,h1,hu,hf,hlen,hqm]
    · rw [xBE (by simpa using hG),xBG (by omega),h1]
    · rw [xBE (by simpa using hGq),xCi hGq]
    · rcases h3 with h3 | ⟨p,rfl,hp,hpw⟩
      · exact .inl h3
      · have := xNO hpw
        exact .inr ⟨p,rfl,hp,by rw [xBE (by simpa using this),xBG (by rintro rfl; rw [hpw] at hqm; cases hqm),hpw]⟩
    · simp
    · intro b hb ht
      rw [xBE (by simp; omega),xBG (by omega)]
theorem xV9 (hT : T < B) (hB : B ≤ G.length) (h : TrI B T G ks w) (hk : k ∈ ks) (hl : w.length = ks.length) (hw : w.length < 1099511627776) :
    ∃ G' a b p' q',L.icall (.func 54 []) [.ptr T 0,kv2 k] G = some (.tup [.agg [.own false a 0 p'.length 1,.own false b 0 q'.length 1],.bool true],G') ∧
      Canon (xAJ (w.take (pos k ks)) (w.drop (pos k ks))) p' q' ∧ B ≤ a ∧ B ≤ b ∧ a ≠ b ∧ G'[a]? = some (.cells false false (bs p')) ∧ G'[b]? = some (.cells false false (bs q')) ∧
      p'.length ≤ w.length ∧ q'.length ≤ w.length ∧ Kt B T G G' := by
  obtain ⟨mv,wv,h1,h2,h3⟩ := h
  have hn := xUw hk
  have hf := xK5 xUy k ks 0
  rw [if_pos hk,Nat.zero_add] at hf
  generalize pos k ks = n at *
  obtain ⟨k1,k2⟩ := k
  have hG := xNO h1
  rcases h2 with ⟨rfl,rfl⟩ | ⟨q,rfl,hq,hqm⟩
  · simp at hn
  rcases h3 with ⟨rfl,rfl⟩ | ⟨p,rfl,hp,hpw⟩
  · simp at hl; omega
  have hGp := xNO hpw
  have hGq := xNO hqm
  have e1 : (w.take n).length = n := by rw [List.length_take]; omega
  have e2 : (w.drop n).length = w.length - n := List.length_drop ..
  obtain ⟨p',q',c1,c2,c3,-,c5⟩ := xH4 false (w.take n) (w.drop n) (by omega) (by omega)
  have e3 : (xAK (w.drop n)).length = w.length - n := by rw [xBT]; omega
  have hn2 : (n : Int) ≤ (w.length : Nat) := by omega
  simp only [las,xA2,e1,e2] at c5
  simp only [kv2] at hf ⊢
  refine ⟨(G.modify p xAj).modify p xAj ++ [.cells false false [.int .i64 (k1 : Nat),.int .i64 (k2 : Nat)],.cells false false [.own false (G.length + 2) 0 p'.length 1,.own false (G.length + 3) 0 q'.length 1],.cells false false (bs p'),.cells false false (bs q')],G.length + 2,G.length + 3,p',q',?_,c1,by omega,by omega,by omega,?_,?_,by omega,by omega,?_,?_⟩
  · rw [yA7,a54]
    simp (maxSteps := 30000000) (disch := first | assumption | omega | (simp only [WL,AV.isCell,List.length_modify] <;> omega) | rfl | decide) only [↓reduceIte,WB,xAs,xAc,xAr,xAk,xAj,AV.cells,AV.isCell,xAb,xAd,xAe,WP,xAF,xAt,xBj,xBh,xBd,xAz,xAI,xAG,WM,W2,xAf,xAg,xAh,Nat.reduceAdd,Nat.reduceSub,Nat.reduceLeDiff,Nat.reduceMul,Int.reduceAdd,Int.reduceSub,Int.reduceMul,Int.reduceLT,Int.reduceLE,Int.reduceEq,Int.reduceToNat,Int.reduceNeg,Nat.reduceEqDiff,Nat.reduceBEq,Nat.reduceLT,xBE,xB5,xCt,xCI,xCJ,xCK,yBI,xBG,xCi,yAs,List.length_modify,xOz,xIb,xK3,xK4,xFt,xEf,xEg,List.set_set,h1,hf,hqm,hpw,hn2,c5]
  · rw [xB5 (by simp)]; rfl
  · rw [xB5 (by simp)]; rfl
  · simp
  · intro b hb ht
    rw [xBE (by simp; omega),yAs (by omega),yAs (by omega)]
end
def nx (M : Ma) (s i : Nat) : Nat := (M.next.getD s []).getD i 0
def em (M : Ma) (s i : Nat) : Nat := (M.emit.getD s []).getD i 0
theorem Vm.nl {M : Ma} (h : Vm M) {s : Nat} (hs : s < M.next.length) : (M.next.getD s []).length = two M.i := h.rl _ (xA8 hs)
theorem Vm.wl' {M : Ma} (h : Vm M) {s : Nat} (hs : s < M.next.length) : (M.emit.getD s []).length = two M.i := h.wl _ (xA8 (by rw [h.el]; exact hs))
theorem Vm.nx {M : Ma} (h : Vm M) {s i : Nat} (hs : s < M.next.length) (hi : i < two M.i) : nx M s i < M.next.length := h.rb _ (xA8 hs) _ (xA8 (by rw [h.nl hs]; exact hi))
theorem Vm.em {M : Ma} (h : Vm M) {s i : Nat} (hs : s < M.next.length) (hi : i < two M.i) : em M s i < two M.o := h.wb _ (xA8 (by rw [h.el]; exact hs)) _ (xA8 (by rw [h.wl' hs]; exact hi))
def nxo (N : Mo) (t o : Nat) : Nat := (N.next.getD t []).getD o 0
def gv (N : Mo) (t : Nat) : Nat := N.give.getD t 0
theorem Vo.nl {N : Mo} (h : Vo N) {s : Nat} (hs : s < N.next.length) : (N.next.getD s []).length = two N.o := h.rl _ (xA8 hs)
theorem Vo.nx {N : Mo} (h : Vo N) {s i : Nat} (hs : s < N.next.length) (hi : i < two N.o) : nxo N s i < N.next.length := h.rb _ (xA8 hs) _ (xA8 (by rw [h.nl hs]; exact hi))
theorem Vo.gv {N : Mo} (h : Vo N) {s : Nat} (hs : s < N.next.length) : gv N s < two N.i := h.gb _ (xA8 (by rw [h.gl]; exact hs))
theorem xYO (a b : Nat) : two a * two b = two (a + b) := (Nat.pow_add 2 a b).symm
def lt2 (a i o : Nat) : Nat := i + o * two a
theorem xQx {a b i o : Nat} (h : a + b ≤ 6) (hi : i < two a) (ho : o < two b) : lt2 a i o < two (a + b) ∧ lt2 a i o < 64 ∧ o * two a < 64 := by
  have h1 : (o + 1) * two a ≤ two b * two a := Nat.mul_le_mul_right _ ho
  rw [xYO,Nat.add_mul,Nat.one_mul,Nat.add_comm b a] at h1
  have h2 := (xE3 h).1
  unfold lt2
  omega
theorem xUz {a b i o : Nat} (h : a + b ≤ 6) (hi : i < two a) (ho : o < two b) : IntKind.u8.wrap ((o : Int) * 2 ^ min a IntKind.u8.bits) = ((o * two a : Nat) : Int) := by
  have h3 := (xQx h hi ho).2.2
  have e : min a IntKind.u8.bits = a := by show min a 8 = a; omega
  rw [e]
  have e2 : (o : Int) * 2 ^ a = ((o * two a : Nat) : Int) := by
    unfold two
    rw [Int.natCast_mul,Int.natCast_pow]; rfl
  rw [e2]
  exact xYZ (by omega)
theorem yAt {a b i o : Nat} (h : a + b ≤ 6) (hi : i < two a) (ho : o < two b) : xEx .or .u8 (i : Int) ((o * two a : Nat) : Int) = ((lt2 a i o : Nat) : Int) := by
  have h3 := xQx h hi ho
  have h4 := (xE3 (show a ≤ 6 by omega)).1
  rw [or8 (by omega) (by omega)]
  congr 1
  unfold lt2
  have := Nat.shiftLeft_add_eq_or_of_lt (i := a) (b := i) hi o
  rw [Nat.shiftLeft_eq] at this
  unfold two
  rw [Nat.or_comm,← this,Nat.add_comm]
def yBJ (M : Ma) (N : Mo) (c : Nat × Nat) : Nat × Nat := (nx M c.1 (gv N c.2),nxo N c.2 (em M c.1 (gv N c.2)))
def yCH (M : Ma) (N : Mo) (c : Nat × Nat) : Nat := lt2 M.i (gv N c.2) (em M c.1 (gv N c.2))
def cfg (M : Ma) (N : Mo) : Nat → Nat × Nat
  | 0 => (M.s,N.s)
  | n + 1 => yBJ M N (cfg M N n)
def yB9 (M : Ma) (N : Mo) (n : Nat) : List Nat := (List.range n).map fun k => yCH M N (cfg M N k)
theorem TrI.keep {B T : Nat} {G G' : Heap} {ks : List (Nat × Nat)} {w : List Nat} (h : TrI B T G ks w) (hk : ∀ b,b = T ∨ B ≤ b → b < G.length → G'[b]? = G[b]?) : TrI B T G' ks w := by
  obtain ⟨mv,wv,h1,h2,h3⟩ := h
  refine ⟨mv,wv,by rw [hk T (.inl rfl) (xNO h1)]; exact h1,?_,?_⟩
  · rcases h2 with h2 | ⟨q,e,hq,hm⟩
    · exact .inl h2
    · exact .inr ⟨q,e,hq,by rw [hk q (.inr hq) (xNO hm)]; exact hm⟩
  · rcases h3 with h3 | ⟨q,e,hq,hm⟩
    · exact .inl h3
    · exact .inr ⟨q,e,hq,by rw [hk q (.inr hq) (xNO hm)]; exact hm⟩
section
variable {M : Ma} {N : Mo} {G : Heap} {s t : Nat} {ks : List (Nat × Nat)} {w : List Nat}
end
section
variable {H : Heap} {fv : AV}
theorem yBK {z : Bool} {l : List Nat} {P : Nat → Bool} (hl : l.length < 9223372036854775807) (hb : ∀ x ∈ l,x < 256) (hf : ∀ s,s < 256 → L.icall fv [.int .u8 (s : Nat)] H = some (.bool (P s),H)) : ∀ e i,i + e = l.length →
    ∃ j : Nat,L.loop xMk xVx ⟨xI2 (.sl z l.length (bs l)) fv (.int .i64 0) (.int .i64 (l.length : Nat)) (.int .i64 (i : Nat)),H⟩ =
      some (if (l.drop i).any P = true then (.ret,⟨xI2 (.sl z l.length (bs l)) fv (.int .i64 (j : Nat)) (.int .i64 (l.length : Nat)) (.int .i64 (j : Nat)),H⟩)
        else (.exit 0,⟨xI2 (.sl z l.length (bs l)) fv (.int .i64 0) (.int .i64 (l.length : Nat)) (.int .i64 (l.length : Nat)),H⟩)) := by
  intro e
  induction e with
  | zero =>
    intro i h
    obtain rfl : i = l.length := by omega
    refine ⟨0,?_⟩
    rw [if_neg (by rw [List.drop_length]; simp),xSu]
    simp (maxSteps := 30000000) (disch := first | assumption | omega | (simp only [WL,AV.isCell] <;> omega) | rfl | decide) only [↓reduceIte,WB,xAs,xAc,xAr,xAk,xAj,AV.cells,AV.isCell,xAb,xAd,xAe,WP,xAF,xAt,xBj,xBh,xBd,xAz,xAI,xAG,W2,xAf,xAg,xAh,Nat.reduceAdd,Nat.reduceSub,Nat.reduceLeDiff,Nat.reduceMul,Int.reduceAdd,Int.reduceSub,Int.reduceMul,Int.reduceLT,Int.reduceLE,Int.reduceEq,Int.reduceToNat,Int.reduceNeg,Nat.reduceEqDiff,Nat.reduceBEq,Nat.reduceLT,xBE,xB5,xCt,xCI,xCJ,xCK,xBG,xCi,xAW,xAX,xDi,xEh,List.length_map,List.set_set,xI1,xI3]
  | succ e ih =>
    intro i h
    have hlt : (i : Int) < (l.length : Nat) := by omega
    obtain ⟨j,ih'⟩ := ih (i + 1) (by omega)
    have hp := hf (l.getD i 0) (hb _ (xA8 (by omega)))
    rw [xAZ (a := (0 : Nat)) (by omega : i < l.length),List.any_cons]
    cases c : P (l.getD i 0) with
    | true =>
      rw [c] at hp
      refine ⟨i,?_⟩
      rw [Bool.true_or,if_pos rfl,xSu]
      simp (maxSteps := 30000000) (disch := first | assumption | omega | (simp only [WL,AV.isCell] <;> omega) | rfl | decide) only [↓reduceIte,WB,xAs,xAc,xAr,xAk,xAj,AV.cells,AV.isCell,xAb,xAd,xAe,WP,xAF,xAt,xBj,xBh,xBd,xAz,xAI,xAG,W2,xAf,xAg,xAh,Nat.reduceAdd,Nat.reduceSub,Nat.reduceLeDiff,Nat.reduceMul,Int.reduceAdd,Int.reduceSub,Int.reduceMul,Int.reduceLT,Int.reduceLE,Int.reduceEq,Int.reduceToNat,Int.reduceNeg,Nat.reduceEqDiff,Nat.reduceBEq,Nat.reduceLT,xBE,xB5,xCt,xCI,xCJ,xCK,xBG,xCi,xAW,xAX,xDi,xEh,List.length_map,List.set_set,xI1,xI3,hlt,hp]
    | false =>
      rw [c] at hp
      rw [Bool.false_or]
      refine ⟨j,?_⟩
      rw [xSu]
      by_cases e : (l.drop (i + 1)).any P = true
      · rw [if_pos e] at ih' ⊢
        simp (maxSteps := 30000000) (disch := first | assumption | omega | (simp only [WL,AV.isCell] <;> omega) | rfl | decide) only [↓reduceIte,WB,xAs,xAc,xAr,xAk,xAj,AV.cells,AV.isCell,xAb,xAd,xAe,WP,xAF,xAt,xBj,xBh,xBd,xAz,xAI,xAG,W2,xAf,xAg,xAh,Nat.reduceAdd,Nat.reduceSub,Nat.reduceLeDiff,Nat.reduceMul,Int.reduceAdd,Int.reduceSub,Int.reduceMul,Int.reduceLT,Int.reduceLE,Int.reduceEq,Int.reduceToNat,Int.reduceNeg,Nat.reduceEqDiff,Nat.reduceBEq,Nat.reduceLT,xBE,xB5,xCt,xCI,xCJ,xCK,xBG,xCi,xAW,xAX,xDi,xEh,List.length_map,List.set_set,xI1,xI3,hlt,hp,ih']
      · rw [if_neg e] at ih' ⊢
        simp (maxSteps := 30000000) (disch := first | assumption | omega | (simp only [WL,AV.isCell] <;> omega) | rfl | decide) only [↓reduceIte,WB,xAs,xAc,xAr,xAk,xAj,AV.cells,AV.isCell,xAb,xAd,xAe,WP,xAF,xAt,xBj,xBh,xBd,xAz,xAI,xAG,W2,xAf,xAg,xAh,Nat.reduceAdd,Nat.reduceSub,Nat.reduceLeDiff,Nat.reduceMul,Int.reduceAdd,Int.reduceSub,Int.reduceMul,Int.reduceLT,Int.reduceLE,Int.reduceEq,Int.reduceToNat,Int.reduceNeg,Nat.reduceEqDiff,Nat.reduceBEq,Nat.reduceLT,xBE,xB5,xCt,xCI,xCJ,xCK,xBG,xCi,xAW,xAX,xDi,xEh,List.length_map,List.set_set,xI1,xI3,hlt,hp,ih']
theorem xYP {z : Bool} {l : List Nat} {P : Nat → Bool} (hl : l.length < 9223372036854775807) (hb : ∀ x ∈ l,x < 256) (hf : ∀ s,s < 256 → L.icall fv [.int .u8 (s : Nat)] H = some (.bool (P s),H)) :
    ∃ j : Int,L.icall (.func 85 []) [.sl z l.length (bs l),fv] H = some (.int .i64 j,H) ∧ (if l.any P = true then 0 ≤ j else j < 0) := by
  obtain ⟨j,h⟩ := yBK (z := z) hl hb hf l.length 0 (by omega)
  simp only [Int.natCast_zero,List.drop_zero] at h
  by_cases c : l.any P = true
  · rw [if_pos c] at h
    refine ⟨j,?_,by rw [if_pos c]; omega⟩
    rw [yBZ,a85]
    simp (maxSteps := 30000000) (disch := first | assumption | omega | (simp only [WL,AV.isCell] <;> omega) | rfl | decide) only [↓reduceIte,WB,xAs,xAc,xAr,xAk,xAj,AV.cells,AV.isCell,xAb,xAd,xAe,WP,xAF,xAt,xBj,xBh,xBd,xAz,xAI,xAG,W2,xAf,xAg,xAh,Nat.reduceAdd,Nat.reduceSub,Nat.reduceLeDiff,Nat.reduceMul,Int.reduceAdd,Int.reduceSub,Int.reduceMul,Int.reduceLT,Int.reduceLE,Int.reduceEq,Int.reduceToNat,Int.reduceNeg,Nat.reduceEqDiff,Nat.reduceBEq,Nat.reduceLT,xBE,xB5,xCt,xCI,xCJ,xCK,xBG,xCi,xAW,xAX,xDi,xEh,List.length_map,List.set_set,xI3,h]
  · rw [if_neg c] at h
    refine ⟨-1,?_,by rw [if_neg c]; omega⟩
    rw [yBZ,a85]
    simp (maxSteps := 30000000) (disch := first | assumption | omega | (simp only [WL,AV.isCell] <;> omega) | rfl | decide) only [↓reduceIte,WB,xAs,xAc,xAr,xAk,xAj,AV.cells,AV.isCell,xAb,xAd,xAe,WP,xAF,xAt,xBj,xBh,xBd,xAz,xAI,xAG,W2,xAf,xAg,xAh,Nat.reduceAdd,Nat.reduceSub,Nat.reduceLeDiff,Nat.reduceMul,Int.reduceAdd,Int.reduceSub,Int.reduceMul,Int.reduceLT,Int.reduceLE,Int.reduceEq,Int.reduceToNat,Int.reduceNeg,Nat.reduceEqDiff,Nat.reduceBEq,Nat.reduceLT,xBE,xB5,xCt,xCI,xCJ,xCK,xBG,xCi,xAW,xAX,xDi,xEh,List.length_map,List.set_set,xI3,h]
theorem yAu {z : Bool} {l : List Nat} {P : Nat → Bool} (hl : l.length < 9223372036854775807) (hb : ∀ x ∈ l,x < 256) (hf : ∀ s,s < 256 → L.icall fv [.int .u8 (s : Nat)] H = some (.bool (P s),H)) :
    L.icall (.func 52 []) [.sl z l.length (bs l),fv] H = some (.bool (l.any P),H) := by
  obtain ⟨j,h,hj⟩ := xYP (z := z) hl hb hf
  rw [yCh,a52]
  cases c : l.any P with
  | true =>
    rw [if_pos c] at hj
    simp (maxSteps := 30000000) (disch := first | assumption | omega | (simp only [WL,AV.isCell] <;> omega) | rfl | decide) only [↓reduceIte,WB,xAs,xAc,xAr,xAk,xAj,AV.cells,AV.isCell,xAb,xAd,xAe,WP,xAF,xAt,xBj,xBh,xBd,xAz,xAI,xAG,W2,xAf,xAg,xAh,Nat.reduceAdd,Nat.reduceSub,Nat.reduceLeDiff,Nat.reduceMul,Int.reduceAdd,Int.reduceSub,Int.reduceMul,Int.reduceLT,Int.reduceLE,Int.reduceEq,Int.reduceToNat,Int.reduceNeg,Nat.reduceEqDiff,Nat.reduceBEq,Nat.reduceLT,xBE,xB5,xCt,xCI,xCJ,xCK,xBG,xCi,xAW,xAX,xDi,xEh,List.length_map,List.set_set,h,hj]
  | false =>
    rw [if_neg (by simp [c])] at hj
    have hj' : ¬ 0 ≤ j := by omega
    simp (maxSteps := 30000000) (disch := first | assumption | omega | (simp only [WL,AV.isCell] <;> omega) | rfl | decide) only [↓reduceIte,WB,xAs,xAc,xAr,xAk,xAj,AV.cells,AV.isCell,xAb,xAd,xAe,WP,xAF,xAt,xBj,xBh,xBd,xAz,xAI,xAG,W2,xAf,xAg,xAh,Nat.reduceAdd,Nat.reduceSub,Nat.reduceLeDiff,Nat.reduceMul,Int.reduceAdd,Int.reduceSub,Int.reduceMul,Int.reduceLT,Int.reduceLE,Int.reduceEq,Int.reduceToNat,Int.reduceNeg,Nat.reduceEqDiff,Nat.reduceBEq,Nat.reduceLT,xBE,xB5,xCt,xCI,xCJ,xCK,xBG,xCi,xAW,xAX,xDi,xEh,List.length_map,List.set_set,h,hj']
end
theorem yBL {M : Ma} (hV : Vm M) {b x : Nat} {H : Heap} (hx : x < 256) (h : H[b]? = some (.cells false false M.cells)) : L.icall (.func 53 [.ptr b 0]) [.int .u8 (x : Nat)] H = some (.bool (decide (two M.i ≤ x)),H) := by
  have io := hV.io
  have hsi := xFr (v := M.i) (by omega)
  have hi0 : ¬ ((M.i : Nat) : Int) < 0 := by omega
  unfold Ma.cells at h
  rw [yCi,a53]
  by_cases c : two M.i ≤ x
  · have c' : ((two M.i : Nat) : Int) ≤ (x : Nat) := by omega
    rw [decide_eq_true c]
    simp (maxSteps := 30000000) (disch := first | assumption | omega | (simp only [WL,AV.isCell] <;> omega) | rfl | decide) only [↓reduceIte,WB,xAs,xAc,xAr,xAk,xAj,AV.cells,AV.isCell,xAb,xAd,xAe,WP,xAF,xAt,xBj,xBh,xBd,xAz,xAI,xAG,W2,xAf,xAg,xAh,Nat.reduceAdd,Nat.reduceSub,Nat.reduceLeDiff,Nat.reduceMul,Int.reduceAdd,Int.reduceSub,Int.reduceMul,Int.reduceLT,Int.reduceLE,Int.reduceEq,Int.reduceToNat,Int.reduceNeg,Nat.reduceEqDiff,Nat.reduceBEq,Nat.reduceLT,xBE,xB5,xCt,xCI,xCJ,xCK,xBG,xCi,xAW,xAX,xDi,xEh,List.length_map,List.set_set,h,hsi,hi0,c']
  · have c' : ¬ ((two M.i : Nat) : Int) ≤ (x : Nat) := by omega
    rw [decide_eq_false c]
    simp (maxSteps := 30000000) (disch := first | assumption | omega | (simp only [WL,AV.isCell] <;> omega) | rfl | decide) only [↓reduceIte,WB,xAs,xAc,xAr,xAk,xAj,AV.cells,AV.isCell,xAb,xAd,xAe,WP,xAF,xAt,xBj,xBh,xBd,xAz,xAI,xAG,W2,xAf,xAg,xAh,Nat.reduceAdd,Nat.reduceSub,Nat.reduceLeDiff,Nat.reduceMul,Int.reduceAdd,Int.reduceSub,Int.reduceMul,Int.reduceLT,Int.reduceLE,Int.reduceEq,Int.reduceToNat,Int.reduceNeg,Nat.reduceEqDiff,Nat.reduceBEq,Nat.reduceLT,xBE,xB5,xCt,xCI,xCJ,xCK,xBG,xCi,xAW,xAX,xDi,xEh,List.length_map,List.set_set,h,hsi,hi0,c']
def xF8 (M : Ma) : Nat → List Nat → List Nat
  | _,[] => []
  | s,x :: t => em M s x :: xF8 M (nx M s x) t
def xNT (M : Ma) : Nat → List Nat → List Nat
  | _,[] => []
  | s,x :: t => nx M s x :: xNT M (nx M s x) t
theorem xDW (M : Ma) : ∀ (w : List Nat) (s : Nat),(xF8 M s w).length = w.length
  | [],_ => rfl
  | x :: t,s => by rw [xF8,List.length_cons,xDW M t,List.length_cons]
theorem xK6 (M : Ma) : ∀ (w : List Nat) (s : Nat),(xNT M s w).length = w.length
  | [],_ => rfl
  | x :: t,s => by rw [xNT,List.length_cons,xK6 M t,List.length_cons]
def Ow (G : Heap) (B : Nat) (ov sv : AV) (o st : List Nat) : Prop := ∃ q,sv = .own false q 0 st.length 1 ∧ B ≤ q ∧ G[q]? = some (.cells false false (xBV st)) ∧
  ((ov = .sl true 0 [] ∧ o = []) ∨ ∃ p,ov = .own false p 0 o.length 1 ∧ B ≤ p ∧ p ≠ q ∧ G[p]? = some (.cells false false (bs o)))
section
variable {M : Ma} {G : Heap} {ov sv : AV} {o st w : List Nat} {zw : Bool}
abbrev F16 (ov sv : AV) (s : Nat) (zw : Bool) (w : List Nat) (i : Nat) : List AV := xOU (.ptr 0 0) ov sv (.int .i64 (s : Nat)) (.sl zw w.length (bs w)) (.int .i64 (w.length : Nat)) (.int .i64 (i : Nat))
set_option maxHeartbeats 1000000 in
theorem xUA (hV : Vm M) (h0 : G[0]? = some (.cells false false M.cells)) (hO : Ow G 1 ov sv o st) {s i : Nat} (hs : s < M.next.length) (hi : i < w.length) (hx : w.getD i 0 < two M.i) (hw : w.length < 1000000) (ho : o.length < 1000000) (hst : st.length < 1000000) :
    ∃ G' ov' sv',L.loop xGZ xQ5 ⟨F16 ov sv s zw w i,G⟩ = L.loop xGZ xQ5 ⟨F16 ov' sv' (nx M s (w.getD i 0)) zw w (i + 1),G'⟩ ∧ G'[0]? = some (.cells false false M.cells) ∧ Ow G' 1 ov' sv' (o ++ [em M s (w.getD i 0)]) (st ++ [nx M s (w.getD i 0)]) := by
  obtain ⟨q,rfl,hq,hqs,h3⟩ := hO
  have hGq := xNO hqs
  have hlt : (i : Int) < (w.length : Nat) := by omega
  have l1 := hV.nl hs
  have l2 := hV.wl' hs
  have l5 := hV.el
  have g0 := h0
  unfold Ma.cells at g0
  unfold em nx
  generalize hX : w.getD i 0 = x at *
  rcases h3 with ⟨rfl,rfl⟩ | ⟨p,rfl,hp,hpq,hpo⟩
  · refine ⟨G.set q .dead ++ [.cells false false (bs [(M.emit.getD s []).getD x 0]),.cells false false (xBV (st ++ [(M.next.getD s []).getD x 0]))],.own false G.length 0 1 1,.own false (G.length + 1) 0 (st.length + 1) 1,?_,?_,?_⟩
    · rw [xLY]
      simp (maxSteps := 30000000) (disch := first | assumption | omega | (simp only [WL,AV.isCell] <;> omega) | rfl | decide) only [↓reduceIte,WB,xAs,xAc,xAr,xAk,xAj,AV.cells,AV.isCell,xAb,xAd,xAe,WP,xAF,xAt,xBj,xBh,xBd,xAz,xAI,xAG,W2,xAf,xAg,xAh,Nat.reduceAdd,Nat.reduceSub,Nat.reduceLeDiff,Nat.reduceMul,Int.reduceAdd,Int.reduceSub,Int.reduceMul,Int.reduceLT,Int.reduceLE,Int.reduceEq,Int.reduceToNat,Int.reduceNeg,Nat.reduceEqDiff,Nat.reduceBEq,Nat.reduceLT,xBE,xB5,xCt,xCI,xCJ,xCK,xBG,xCi,xAW,xAX,xDi,xEh,List.length_map,List.set_set,xGY,xG0,hlt,g0,hqs,l1,l2,l5,hX,hs,hx]
      have e : xBV st ++ [AV.int .i64 (((M.next.getD s []).getD x 0 : Nat) : Int)] = xBV (st ++ [(M.next.getD s []).getD x 0]) := by simp [xBV]
      first | rfl | (rw [e]; rfl) | rw [e]
    · rw [xBE (by simp; omega),xBG (by omega),h0]
    · exact ⟨G.length + 1,by simp,by omega,by rw [xB5 (by simp)]; rfl,.inr ⟨G.length,rfl,by omega,by omega,by rw [xCt (by simp)]; rfl⟩⟩
  · have hGp := xNO hpo
    refine ⟨(G.set p .dead).set q .dead ++ [.cells false false (bs (o ++ [(M.emit.getD s []).getD x 0])),.cells false false (xBV (st ++ [(M.next.getD s []).getD x 0]))],.own false G.length 0 (o.length + 1) 1,.own false (G.length + 1) 0 (st.length + 1) 1,?_,?_,?_⟩
    · rw [xLY]
      simp (maxSteps := 30000000) (disch := first | assumption | omega | (simp only [WL,AV.isCell] <;> omega) | rfl | decide) only [↓reduceIte,WB,xAs,xAc,xAr,xAk,xAj,AV.cells,AV.isCell,xAb,xAd,xAe,WP,xAF,xAt,xBj,xBh,xBd,xAz,xAI,xAG,W2,xAf,xAg,xAh,Nat.reduceAdd,Nat.reduceSub,Nat.reduceLeDiff,Nat.reduceMul,Int.reduceAdd,Int.reduceSub,Int.reduceMul,Int.reduceLT,Int.reduceLE,Int.reduceEq,Int.reduceToNat,Int.reduceNeg,Nat.reduceEqDiff,Nat.reduceBEq,Nat.reduceLT,xBE,xB5,xCt,xCI,xCJ,xCK,xBG,xCi,xAW,xAX,xDi,xEh,List.length_map,List.set_set,xGY,xG0,hlt,g0,hqs,hpo,l1,l2,l5,hX,hs,hx]
      have e : xBV st ++ [AV.int .i64 (((M.next.getD s []).getD x 0 : Nat) : Int)] = xBV (st ++ [(M.next.getD s []).getD x 0]) := by simp [xBV]
      have e2 : bs o ++ [AV.int .u8 (((M.emit.getD s []).getD x 0 : Nat) : Int)] = bs (o ++ [(M.emit.getD s []).getD x 0]) := by simp [bs]
      first | rfl | rw [e,e2] | rw [e] | rw [e2]
    · rw [xBE (by simp; omega),xBG (by omega),xBG (by omega),h0]
    · exact ⟨G.length + 1,by simp,by omega,by rw [xB5 (by simp)]; rfl,.inr ⟨G.length,by simp,by omega,by omega,by rw [xCt (by simp)]; rfl⟩⟩
theorem xYQ (hV : Vm M) (hb : ∀ x ∈ w,x < two M.i) (hw : w.length < 1000) : ∀ e i s o st ov sv G,i + e = w.length → s < M.next.length → G[0]? = some (.cells false false M.cells) → Ow G 1 ov sv o st → o.length = i → st.length = i + 1 →
    ∃ G' ov' sv' s',L.loop xGZ xQ5 ⟨F16 ov sv s zw w i,G⟩ = some (.exit 1,⟨F16 ov' sv' s' zw w w.length,G'⟩) ∧ Ow G' 1 ov' sv' (o ++ xF8 M s (w.drop i)) (st ++ xNT M s (w.drop i)) := by
  intro e
  induction e with
  | zero =>
    intro i s o st ov sv G h hs h0 hO ho hst
    obtain rfl : i = w.length := by omega
    refine ⟨G,ov,sv,s,?_,by rw [List.drop_length]; simpa [xF8,xNT] using hO⟩
    rw [xLY]
    simp (maxSteps := 30000000) (disch := first | assumption | omega | (simp only [WL,AV.isCell] <;> omega) | rfl | decide) only [↓reduceIte,WB,xAs,xAc,xAr,xAk,xAj,AV.cells,AV.isCell,xAb,xAd,xAe,WP,xAF,xAt,xBj,xBh,xBd,xAz,xAI,xAG,W2,xAf,xAg,xAh,Nat.reduceAdd,Nat.reduceSub,Nat.reduceLeDiff,Nat.reduceMul,Int.reduceAdd,Int.reduceSub,Int.reduceMul,Int.reduceLT,Int.reduceLE,Int.reduceEq,Int.reduceToNat,Int.reduceNeg,Nat.reduceEqDiff,Nat.reduceBEq,Nat.reduceLT,xBE,xB5,xCt,xCI,xCJ,xCK,xBG,xCi,xAW,xAX,xDi,xEh,List.length_map,List.set_set,xGY,xG0]
    try rfl
  | succ e ih =>
    intro i s o st ov sv G h hs h0 hO ho hst
    have hx := hb _ (xA8 (a := (0 : Nat)) (show i < w.length by omega))
    obtain ⟨G1,ov1,sv1,k1,k2,k3⟩ := xUA (zw := zw) hV h0 hO hs (show i < w.length by omega) hx (by omega) (by omega) (by omega)
    rw [k1]
    obtain ⟨G',ov',sv',s',j1,j2⟩ := ih (i + 1) _ _ _ ov1 sv1 G1 (by omega) (hV.nx hs hx) k2 k3 (by simp; omega) (by simp; omega)
    refine ⟨G',ov',sv',s',j1,?_⟩
    rw [xAZ (a := (0 : Nat)) (show i < w.length by omega),xF8,xNT]
    simpa using j2
end
def it {σ : Type} (f : σ → σ) (c : σ) : Nat → σ
  | 0 => c
  | n + 1 => f (it f c n)
def its {σ : Type} (f : σ → σ) (c : σ) (n : Nat) : List σ := (List.range n).map (it f c)
def lts {σ : Type} (f : σ → σ) (g : σ → Nat) (c : σ) (n : Nat) : List Nat := (List.range n).map fun k => g (it f c k)
section
variable {σ : Type} {f : σ → σ} {g : σ → Nat} {c : σ}
theorem xQy (n : Nat) : its f c (n + 1) = its f c n ++ [it f c n] := by simp [its,List.range_succ]
theorem xWa (n : Nat) : lts f g c (n + 1) = lts f g c n ++ [g (it f c n)] := by simp [lts,List.range_succ]
theorem xId (n : Nat) : (its f c n).length = n := by simp [its]
theorem xFv (n : Nat) : (lts f g c n).length = n := by simp [lts]
theorem yAv {n k : Nat} (d : σ) (h : k < n) : (its f c n).getD k d = it f c k := by
  simp [its,List.getD,h]
theorem xXr {n k : Nat} (h : k < n) : (lts f g c n).getD k 0 = g (it f c k) := by
  simp [lts,List.getD,h]
def yCI (f : σ → σ) (c : σ) (n : Nat) : Prop := (its f c n).Nodup ∧ it f c n ∈ its f c n
theorem xUB {n : Nat} (h : (its f c n).Nodup) (hn : it f c n ∉ its f c n) : (its f c (n + 1)).Nodup := by
  rw [xQy,List.nodup_append]
  refine ⟨h,by simp,fun a ha b hb => ?_⟩
  simp only [List.mem_singleton] at hb
  subst hb
  rintro rfl
  exact hn ha
theorem xXs (a b : Nat) : it f c (a + b) = it f (it f c a) b := by
  induction b with
  | zero => rfl
  | succ b ih => rw [Nat.add_succ,it,ih]; rfl
theorem yAw {k d : Nat} (h : it f c (k + d) = it f c k) : ∀ t,it f c (k + d + t) = it f c (k + t) := by
  intro t
  rw [xXs (k + d) t,h,← xXs]
theorem yAx {k d : Nat} (hd : 0 < d) (h : it f c (k + d) = it f c k) (t : Nat) : it f c (k + t) = it f c (k + t % d) := by
  have key : ∀ m t,it f c (k + (t + m * d)) = it f c (k + t) := by
    intro m
    induction m with
    | zero => intro t; simp
    | succ m ih =>
      intro t
      have := yAw h (t + m * d)
      rw [show k + (t + (m + 1) * d) = k + d + (t + m * d) by rw [Nat.add_mul]; omega,this,ih]
  have := key (t / d) (t % d)
  rw [show t % d + t / d * d = t by rw [Nat.mul_comm]; exact Nat.mod_add_div t d] at this
  exact this
variable [DecidableEq σ]
theorem xYR {n : Nat} (h : it f c n ∈ its f c n) (j : Nat) : xAJ ((lts f g c n).take (pos (it f c n) (its f c n))) ((lts f g c n).drop (pos (it f c n) (its f c n))) j = g (it f c j) := by
  have hp := xUw h
  rw [xId] at hp
  have ha := xXq (d := c) h
  rw [yAv c hp] at ha
  generalize pos (it f c n) (its f c n) = k at *
  have e1 : ((lts f g c n).take k).length = k := by rw [List.length_take,xFv]; omega
  have e2 : ((lts f g c n).drop k).length = n - k := by rw [List.length_drop,xFv]
  have hper : it f c (k + (n - k)) = it f c k := by rw [show k + (n - k) = n by omega,ha]
  by_cases hj : j < k
  · rw [xDU (by omega),xEY hj,xXr (by omega)]
  · rw [xBg (by omega),xCb (by omega),e1,e2,xNC,xXr]
    · have := yAx (f := f) (c := c) (by omega) hper (j - k)
      rw [← this,show k + (j - k) = j by omega]
    · have := Nat.mod_lt (j - k) (show 0 < n - k by omega)
      omega
end
theorem yBM {v b x : Nat} {H : Heap} (hv : v ≤ 6) (hx : x < 256) (h : H[b]? = some (.cells false false [.int .i64 (v : Nat)])) : L.icall (.func 80 [.ptr b 0]) [.int .u8 (x : Nat)] H = some (.bool (decide (two v ≤ x)),H) := by
  have hsi := xFr hv
  have hi0 : ¬ ((v : Nat) : Int) < 0 := by omega
  rw [yCv,a80]
  by_cases c : two v ≤ x
  · have c' : ((two v : Nat) : Int) ≤ (x : Nat) := by omega
    rw [decide_eq_true c]
    simp (maxSteps := 30000000) (disch := first | assumption | omega | (simp only [WL,AV.isCell] <;> omega) | rfl | decide) only [↓reduceIte,WB,xAs,xAc,xAr,xAk,xAj,AV.cells,AV.isCell,xAb,xAd,xAe,WP,xAF,xAt,xBj,xBh,xBd,xAz,xAI,xAG,W2,xAf,xAg,xAh,Nat.reduceAdd,Nat.reduceSub,Nat.reduceLeDiff,Nat.reduceMul,Int.reduceAdd,Int.reduceSub,Int.reduceMul,Int.reduceLT,Int.reduceLE,Int.reduceEq,Int.reduceToNat,Int.reduceNeg,Nat.reduceEqDiff,Nat.reduceBEq,Nat.reduceLT,xBE,xB5,xCt,xCI,xCJ,xCK,xBG,xCi,xAW,xAX,xDi,xEh,List.length_map,List.set_set,h,hsi,hi0,c']
  · have c' : ¬ ((two v : Nat) : Int) ≤ (x : Nat) := by omega
    rw [decide_eq_false c]
    simp (maxSteps := 30000000) (disch := first | assumption | omega | (simp only [WL,AV.isCell] <;> omega) | rfl | decide) only [↓reduceIte,WB,xAs,xAc,xAr,xAk,xAj,AV.cells,AV.isCell,xAb,xAd,xAe,WP,xAF,xAt,xBj,xBh,xBd,xAz,xAI,xAG,W2,xAf,xAg,xAh,Nat.reduceAdd,Nat.reduceSub,Nat.reduceLeDiff,Nat.reduceMul,Int.reduceAdd,Int.reduceSub,Int.reduceMul,Int.reduceLT,Int.reduceLE,Int.reduceEq,Int.reduceToNat,Int.reduceNeg,Nat.reduceEqDiff,Nat.reduceBEq,Nat.reduceLT,xBE,xB5,xCt,xCI,xCJ,xCK,xBG,xCi,xAW,xAX,xDi,xEh,List.length_map,List.set_set,h,hsi,hi0,c']
theorem yAy {v b : Nat} {z : Bool} {l : List Nat} {H : Heap} (hv : v ≤ 6) (hl : l.length < 1099511627776) (hb : ∀ x ∈ l,x < 256) (h : H[b]? = some (.cells false false [.int .i64 (v : Nat)])) : L.icall (.func 52 []) [.sl z l.length (bs l),.func 80 [.ptr b 0]] H = some (.bool (xGd (two v) l),H) :=
  yAu (P := fun x => decide (two v ≤ x)) (by omega) hb (fun s hs => yBM hv hs h)
def xUC (v : Nat) (p q : List Nat) : Int := if q = [] then 3 else if 64 < p.length ∨ 64 < q.length then 4 else if xGd (two v) p = true ∨ xGd (two v) q = true then 1 else 0
theorem xUD {v : Nat} {z1 z2 : Bool} {p q : List Nat} (hv : v ≤ 6) (hp : p.length < 1099511627776) (hq : q.length < 1099511627776) (bp : ∀ x ∈ p,x < 256) (bq : ∀ x ∈ q,x < 256) : L.pcall 45 [las z1 z2 p q,.int .i64 (v : Nat)] = some (.int .i64 (xUC v p q)) := by
  have h1 := yAy (z := z1) (l := p) (b := 1) (H := [.cells false false [xA2 z1 p,xA2 z2 q],.cells false false [.int .i64 (v : Nat)]]) hv hp bp rfl
  have h2 := yAy (z := z2) (l := q) (b := 1) (H := [.cells false false [xA2 z1 p,xA2 z2 q],.cells false false [.int .i64 (v : Nat)]]) hv hq bq rfl
  have c0 : ¬ ((v : Nat) : Int) < 0 := by omega
  have c00 : ¬ (6 : Int) < ((v : Nat) : Int) := by omega
  unfold xUC
  rw [yCe,a45,xAl]
  by_cases c1 : q = []
  · subst c1
    rw [if_pos rfl]
    simp (maxSteps := 30000000) (disch := first | assumption | omega | (simp only [WL,AV.isCell] <;> omega) | rfl | decide) only [↓reduceIte,WB,xAs,xAc,xAr,xAk,xAj,AV.cells,AV.isCell,xAb,xAd,xAe,WP,xAF,xAt,xBj,xBh,xBd,xAz,xAI,xAG,W2,xAf,xAg,xAh,Nat.reduceAdd,Nat.reduceSub,Nat.reduceLeDiff,Nat.reduceMul,Int.reduceAdd,Int.reduceSub,Int.reduceMul,Int.reduceLT,Int.reduceLE,Int.reduceEq,Int.reduceToNat,Int.reduceNeg,Nat.reduceEqDiff,Nat.reduceBEq,Nat.reduceLT,xBE,xB5,xCt,xCI,xCJ,xCK,xBG,xCi,xAW,xAX,xDi,xEh,List.length_map,List.set_set,c0,c00]
  have c1' : ¬ ((q.length : Nat) : Int) = 0 := by
    have : 0 < q.length := List.length_pos_iff.2 c1
    omega
  rw [if_neg c1]
  by_cases c2 : 64 < p.length
  · have c2' : (64 : Int) < ((p.length : Nat) : Int) := by omega
    rw [if_pos (.inl c2)]
    simp (maxSteps := 30000000) (disch := first | assumption | omega | (simp only [WL,AV.isCell] <;> omega) | rfl | decide) only [↓reduceIte,WB,xAs,xAc,xAr,xAk,xAj,AV.cells,AV.isCell,xAb,xAd,xAe,WP,xAF,xAt,xBj,xBh,xBd,xAz,xAI,xAG,W2,xAf,xAg,xAh,Nat.reduceAdd,Nat.reduceSub,Nat.reduceLeDiff,Nat.reduceMul,Int.reduceAdd,Int.reduceSub,Int.reduceMul,Int.reduceLT,Int.reduceLE,Int.reduceEq,Int.reduceToNat,Int.reduceNeg,Nat.reduceEqDiff,Nat.reduceBEq,Nat.reduceLT,xBE,xB5,xCt,xCI,xCJ,xCK,xBG,xCi,xAW,xAX,xDi,xEh,List.length_map,List.set_set,c0,c00,c1',c2']
  have c2' : ¬ (64 : Int) < ((p.length : Nat) : Int) := by omega
  by_cases c3 : 64 < q.length
  · have c3' : (64 : Int) < ((q.length : Nat) : Int) := by omega
    rw [if_pos (.inr c3)]
    simp (maxSteps := 30000000) (disch := first | assumption | omega | (simp only [WL,AV.isCell] <;> omega) | rfl | decide) only [↓reduceIte,WB,xAs,xAc,xAr,xAk,xAj,AV.cells,AV.isCell,xAb,xAd,xAe,WP,xAF,xAt,xBj,xBh,xBd,xAz,xAI,xAG,W2,xAf,xAg,xAh,Nat.reduceAdd,Nat.reduceSub,Nat.reduceLeDiff,Nat.reduceMul,Int.reduceAdd,Int.reduceSub,Int.reduceMul,Int.reduceLT,Int.reduceLE,Int.reduceEq,Int.reduceToNat,Int.reduceNeg,Nat.reduceEqDiff,Nat.reduceBEq,Nat.reduceLT,xBE,xB5,xCt,xCI,xCJ,xCK,xBG,xCi,xAW,xAX,xDi,xEh,List.length_map,List.set_set,c0,c00,c1',c2',c3']
  have c3' : ¬ (64 : Int) < ((q.length : Nat) : Int) := by omega
  rw [if_neg (by omega)]
  cases d1 : xGd (two v) p with
  | true =>
    rw [d1] at h1
    rw [if_pos (.inl rfl)]
    simp (maxSteps := 30000000) (disch := first | assumption | omega | (simp only [WL,AV.isCell] <;> omega) | rfl | decide) only [↓reduceIte,WB,xAs,xAc,xAr,xAk,xAj,AV.cells,AV.isCell,xAb,xAd,xAe,WP,xAF,xAt,xBj,xBh,xBd,xAz,xAI,xAG,W2,xAf,xAg,xAh,Nat.reduceAdd,Nat.reduceSub,Nat.reduceLeDiff,Nat.reduceMul,Int.reduceAdd,Int.reduceSub,Int.reduceMul,Int.reduceLT,Int.reduceLE,Int.reduceEq,Int.reduceToNat,Int.reduceNeg,Nat.reduceEqDiff,Nat.reduceBEq,Nat.reduceLT,xBE,xB5,xCt,xCI,xCJ,xCK,xBG,xCi,xAW,xAX,xDi,xEh,List.length_map,List.set_set,c0,c00,c1',c2',c3',h1]
  | false =>
    rw [d1] at h1
    cases d2 : xGd (two v) q with
    | true =>
      rw [d2] at h2
      rw [if_pos (.inr rfl)]
      simp (maxSteps := 30000000) (disch := first | assumption | omega | (simp only [WL,AV.isCell] <;> omega) | rfl | decide) only [↓reduceIte,WB,xAs,xAc,xAr,xAk,xAj,AV.cells,AV.isCell,xAb,xAd,xAe,WP,xAF,xAt,xBj,xBh,xBd,xAz,xAI,xAG,W2,xAf,xAg,xAh,Nat.reduceAdd,Nat.reduceSub,Nat.reduceLeDiff,Nat.reduceMul,Int.reduceAdd,Int.reduceSub,Int.reduceMul,Int.reduceLT,Int.reduceLE,Int.reduceEq,Int.reduceToNat,Int.reduceNeg,Nat.reduceEqDiff,Nat.reduceBEq,Nat.reduceLT,xBE,xB5,xCt,xCI,xCJ,xCK,xBG,xCi,xAW,xAX,xDi,xEh,List.length_map,List.set_set,c0,c00,c1',c2',c3',h1,h2]
    | false =>
      rw [d2] at h2
      rw [if_neg (by simp)]
      simp (maxSteps := 30000000) (disch := first | assumption | omega | (simp only [WL,AV.isCell] <;> omega) | rfl | decide) only [↓reduceIte,WB,xAs,xAc,xAr,xAk,xAj,AV.cells,AV.isCell,xAb,xAd,xAe,WP,xAF,xAt,xBj,xBh,xBd,xAz,xAI,xAG,W2,xAf,xAg,xAh,Nat.reduceAdd,Nat.reduceSub,Nat.reduceLeDiff,Nat.reduceMul,Int.reduceAdd,Int.reduceSub,Int.reduceMul,Int.reduceLT,Int.reduceLE,Int.reduceEq,Int.reduceToNat,Int.reduceNeg,Nat.reduceEqDiff,Nat.reduceBEq,Nat.reduceLT,xBE,xB5,xCt,xCI,xCJ,xCK,xBG,xCi,xAW,xAX,xDi,xEh,List.length_map,List.set_set,c0,c00,c1',c2',c3',h1,h2]
def xFw (p q : List Nat) (i : Nat) : Nat := if i < p.length then i else p.length + (i - p.length) % q.length
def ltr (p q : List Nat) (t : Nat) : Nat := (p ++ q).getD t 0
theorem xK7 {p q : List Nat} (hq : 0 < q.length) (i : Nat) : xFw p q i < p.length + q.length := by
  unfold xFw
  split
  · omega
  · have := Nat.mod_lt (i - p.length) hq
    omega
theorem xK8 {p q : List Nat} (hq : 0 < q.length) (i : Nat) : ltr p q (xFw p q i) = xAJ p q i := by
  unfold ltr xFw
  by_cases c : i < p.length
  · rw [if_pos c,xDc c,xDU c]
  · rw [if_neg c,xCV (by omega),xBg (by omega),xCb hq]
    congr 1; omega
theorem xKl {p q : List Nat} (hq : 0 < q.length) (i : Nat) : xF5 p.length q.length (i : Nat) = (xFw p q i : Nat) := by
  unfold xF5 xFw
  by_cases c : i < p.length
  · rw [if_pos (by omega),if_pos c]; omega
  · rw [if_neg (by omega),if_neg c]
    have e : max q.length 1 = q.length := by omega
    rw [e,show ((i : Nat) : Int) - ((p.length : Nat) : Int) = ((i - p.length : Nat) : Int) by omega]
    omega
theorem xUE {p q : List Nat} (hq : 0 < q.length) (i : Nat) : xFw p q (i + 1) = if xFw p q i + 1 < p.length + q.length then xFw p q i + 1 else p.length := by
  unfold xFw
  by_cases c : i < p.length
  · rw [if_pos c]
    by_cases c2 : i + 1 < p.length
    · rw [if_pos c2,if_pos (by omega)]
    · rw [if_neg c2]
      have : i + 1 - p.length = 0 := by omega
      rw [this,Nat.zero_mod]
      by_cases c3 : i + 1 < p.length + q.length
      · rw [if_pos c3]; omega
      · omega
  · rw [if_neg c,if_neg (by omega)]
    rw [show i + 1 - p.length = (i - p.length) + 1 by omega]
    have hm := Nat.mod_lt (i - p.length) hq
    by_cases c3 : (i - p.length) % q.length + 1 < q.length
    · rw [if_pos (by omega)]
      have : (i - p.length + 1) % q.length = (i - p.length) % q.length + 1 := by
        rw [Nat.add_mod]
        rw [Nat.mod_eq_of_lt (show 1 < q.length by omega),Nat.mod_eq_of_lt c3]
      omega
    · rw [if_neg (by omega)]
      have e : (i - p.length) % q.length + 1 = q.length := by omega
      have : (i - p.length + 1) % q.length = 0 := by
        have h1 := Nat.div_add_mod (i - p.length) q.length
        have : i - p.length + 1 = q.length * ((i - p.length) / q.length + 1) := by rw [Nat.mul_add]; omega
        rw [this]; exact Nat.mul_mod_right ..
      omega
def xBA (M : Ma) (p q : List Nat) (c : Nat × Nat) : Nat × Nat := (nx M c.1 (ltr p q c.2),if c.2 + 1 < p.length + q.length then c.2 + 1 else p.length)
def xWb (M : Ma) (p q : List Nat) (c : Nat × Nat) : Nat := lt2 M.i (ltr p q c.2) (em M c.1 (ltr p q c.2))
structure Lo (v : Nat) (p q : List Nat) : Prop where
  q0 : 0 < q.length
  p4 : p.length ≤ 64
  q4 : q.length ≤ 64
  pb : ∀ x ∈ p,x < two v
  qb : ∀ x ∈ q,x < two v
theorem lasE_zero {v : Nat} {p q : List Nat} : xUC v p q = 0 ↔ Lo v p q := by
  unfold xUC
  by_cases c1 : q = []
  · rw [if_pos c1]
    exact ⟨fun h => by omega,fun h => by have := h.q0; subst c1; simp at this⟩
  rw [if_neg c1]
  by_cases c2 : 64 < p.length ∨ 64 < q.length
  · rw [if_pos c2]
    exact ⟨fun h => by omega,fun h => by have := h.p4; have := h.q4; omega⟩
  rw [if_neg c2]
  by_cases c3 : xGd (two v) p = true ∨ xGd (two v) q = true
  · rw [if_pos c3]
    refine ⟨fun h => by omega,fun h => ?_⟩
    rcases c3 with c3 | c3
    · rw [bigW_iff.2 h.pb] at c3; cases c3
    · rw [bigW_iff.2 h.qb] at c3; cases c3
  · rw [if_neg c3]
    simp only [not_or,Bool.not_eq_true] at c3
    exact ⟨fun _ => ⟨List.length_pos_iff.2 c1,by omega,by omega,bigW_iff.1 c3.1,bigW_iff.1 c3.2⟩,fun _ => rfl⟩
theorem Lo.ltr {v : Nat} {p q : List Nat} (h : Lo v p q) {t : Nat} (ht : t < p.length + q.length) : ltr p q t < two v := by
  unfold Mealy.ltr
  have := xA8 (a := (0 : Nat)) (show t < (p ++ q).length by rw [List.length_append]; exact ht)
  rcases List.mem_append.1 this with h' | h'
  · exact h.pb _ h'
  · exact h.qb _ h'
theorem xFx {M : Ma} {p q : List Nat} (hV : Vm M) (hL : Lo M.i p q) : ∀ k,(it (xBA M p q) (M.s,0) k).1 < M.next.length ∧ (it (xBA M p q) (M.s,0) k).2 = xFw p q k
  | 0 => ⟨hV.s,by
    have := hL.q0
    unfold it xFw
    split
    · rfl
    · have : p.length = 0 := by omega
      simp [this]⟩
  | k + 1 => by
    have ih := xFx hV hL k
    have hi := xK7 (p := p) hL.q0 k
    refine ⟨hV.nx ih.1 (by rw [ih.2]; exact hL.ltr hi),?_⟩
    rw [xUE hL.q0,← ih.2]
    rfl
theorem xK9 {M : Ma} {p q : List Nat} (hV : Vm M) (hL : Lo M.i p q) (n : Nat) : ∀ x ∈ its (xBA M p q) (M.s,0) n,x.1 < M.next.length ∧ x.2 < p.length + q.length := by
  intro x hx
  obtain ⟨k,_,rfl⟩ := List.mem_map.1 hx
  have := xFx hV hL k
  exact ⟨this.1,by rw [this.2]; exact xK7 hL.q0 k⟩
structure Inv18 (M : Ma) (z1 z2 : Bool) (p q : List Nat) (G : Heap) (ks : List (Nat × Nat)) (w : List Nat) : Prop where
  g0 : G[0]? = some (.cells false false M.cells)
  g1 : G[1]? = some (.cells false false [xA2 z1 p,xA2 z2 q])
  g2 : G[2]? = some (.cells false false [.sl true 0 [],.sl true 0 []])
  tr : TrI 4 3 G ks w
  len : 4 ≤ G.length
section
variable {M : Ma} {z1 z2 : Bool} {p q : List Nat} {G : Heap} {s n : Nat} {ks : List (Nat × Nat)} {w : List Nat}
abbrev F18 (s i : Nat) : List AV := xOV (.ptr 0 0) (.ptr 1 0) (.ptr 2 0) (.int .i64 0) (.int .i64 (s : Nat)) (.ptr 3 0) (.int .i64 (i : Nat))
set_option maxHeartbeats 1000000 in
theorem xUF (hV : Vm M) (hL : Lo M.i p q) (h : Inv18 M z1 z2 p q G ks w) (hs : s < M.next.length) (hk : (s,xFw p q n) ∉ ks) (hl : w.length = ks.length) (hw : w.length < 1099511627) (hn : n < 1099511627) :
    ∃ G',L.loop xFM xOl ⟨F18 s n,G⟩ = L.loop xFM xOl ⟨F18 (xBA M p q (s,xFw p q n)).1 (n + 1),G'⟩ ∧ Inv18 M z1 z2 p q G' (ks ++ [(s,xFw p q n)]) (w ++ [xWb M p q (s,xFw p q n)]) := by
  obtain ⟨G1,k1,k2,k3⟩ := xV8 (T := 3) (B := 4) (by omega) h.len h.tr hk hl (by omega)
  have h0 := h.g0
  have h1 := h.g1
  have g0 := (k3.2 0 (by omega) (by omega)).trans h.g0
  have g1 := (k3.2 1 (by omega) (by omega)).trans h.g1
  have g2 := (k3.2 2 (by omega) (by omega)).trans h.g2
  have hlen : 4 ≤ G1.length := by have := h.len; have := k3.1; omega
  obtain ⟨mv,wv,t1,t2,t3⟩ := k2
  have p4 := hL.p4
  have q4 := hL.q4
  have hix := xKV z1 z2 p q (n : Nat) (by omega) (by omega) (by omega) (by omega)
  rw [xKl hL.q0] at hix
  have hat := yAh z1 z2 p q (n : Nat) (by omega) (by omega) (by omega) (by omega)
  rw [xT9,← xK8 hL.q0] at hat
  have hi := hL.ltr (xK7 (p := p) hL.q0 n)
  have ho := hV.em hs hi
  have hio := hV.io
  have l1 := hV.nl hs
  have l2 := hV.wl' hs
  have l5 := hV.el
  have hsh := xUz hio hi ho
  have hor := yAt hio hi ho
  have hnx : (xBA M p q (s,xFw p q n)).1 = nx M s (ltr p q (xFw p q n)) := rfl
  have hlc : xWb M p q (s,xFw p q n) = lt2 M.i (ltr p q (xFw p q n)) (em M s (ltr p q (xFw p q n))) := rfl
  rw [hnx,hlc]
  unfold em at ho hsh hor ⊢
  unfold nx
  generalize xFw p q n = t at *
  generalize ltr p q t = x at *
  generalize hOo : (M.emit.getD s []).getD x 0 = o at *
  have g0' := g0
  unfold Ma.cells at g0'
  simp only [las] at hix hat
  simp only [kv2] at k1
  have hi0 : ¬ ((M.i : Nat) : Int) < 0 := by omega
  rcases t3 with ⟨rfl,rfl⟩ | ⟨b,rfl,hb,hbw⟩
  · refine ⟨G1.set 3 (.cells false false [mv,.own false (G1.length + 1) 0 1 1]) ++ [.cells false false [.sl true 0 [],.sl true 0 []],.cells false false (bs [lt2 M.i x o])],?_,⟨?_,?_,?_,?_,?_⟩⟩
    · rw [xSd]
      simp (maxSteps := 30000000) (disch := first | assumption | omega | (simp only [WL,AV.isCell] <;> omega) | rfl | decide) only [↓reduceIte,WB,xAs,xAc,xAr,xAk,xAj,AV.cells,AV.isCell,xAb,xAd,xAe,WP,xAF,xAt,xBj,xBh,xBd,xAz,xAI,xAG,W2,xAf,xAg,xAh,Nat.reduceAdd,Nat.reduceSub,Nat.reduceLeDiff,Nat.reduceMul,Int.reduceAdd,Int.reduceSub,Int.reduceMul,Int.reduceLT,Int.reduceLE,Int.reduceEq,Int.reduceToNat,Int.reduceNeg,Nat.reduceEqDiff,Nat.reduceBEq,Nat.reduceLT,xBE,xB5,xCt,xCI,xCJ,xCK,xBG,xCi,xAW,xAX,xDi,xEh,List.length_map,List.set_set,xLZ,xL0,h1,hix,hat,k1,g0',g1,g2,t1,l1,l2,l5,hOo,hi,ho,hs,hsh,hor,hi0]
      rfl
    · rw [xBE (by simp; omega),xBG (by omega),g0]
    · rw [xBE (by simp; omega),xBG (by omega),g1]
    · rw [xBE (by simp; omega),xBG (by omega),g2]
    · refine ⟨mv,.own false (G1.length + 1) 0 1 1,?_,?_,.inr ⟨G1.length + 1,rfl,by omega,?_⟩⟩
      · rw [xBE (by simp; omega),xCi (by omega)]
      · rcases t2 with t2 | ⟨q,e,hq,hm⟩
        · exact .inl t2
        · have := xNO hm
          exact .inr ⟨q,e,hq,by rw [xBE (by simp; omega),xBG (by omega)]; exact hm⟩
      · rw [xB5 (by simp)]; rfl
    · simp; omega
  · have hGp := xNO hbw
    refine ⟨(G1.set b .dead).set 3 (.cells false false [mv,.own false (G1.length + 1) 0 (w.length + 1) 1]) ++ [.cells false false [.sl true 0 [],.sl true 0 []],.cells false false (bs (w ++ [lt2 M.i x o]))],?_,⟨?_,?_,?_,?_,?_⟩⟩
    · have hb3 : b ≠ 3 := by omega
      rw [xSd]
      simp (maxSteps := 30000000) (disch := first | assumption | omega | (simp only [WL,AV.isCell] <;> omega) | rfl | decide) only [↓reduceIte,WB,xAs,xAc,xAr,xAk,xAj,AV.cells,AV.isCell,xAb,xAd,xAe,WP,xAF,xAt,xBj,xBh,xBd,xAz,xAI,xAG,W2,xAf,xAg,xAh,Nat.reduceAdd,Nat.reduceSub,Nat.reduceLeDiff,Nat.reduceMul,Int.reduceAdd,Int.reduceSub,Int.reduceMul,Int.reduceLT,Int.reduceLE,Int.reduceEq,Int.reduceToNat,Int.reduceNeg,Nat.reduceEqDiff,Nat.reduceBEq,Nat.reduceLT,xBE,xB5,xCt,xCI,xCJ,xCK,xBG,xCi,xAW,xAX,xDi,xEh,List.length_map,List.set_set,xLZ,xL0,h1,hix,hat,k1,g0',g1,g2,t1,hbw,l1,l2,l5,hOo,hi,ho,hs,hsh,hor,hi0]
      rw [xSA]; rfl
    · rw [xBE (by simp; omega),xBG (by omega),xBG (by omega),g0]
    · rw [xBE (by simp; omega),xBG (by omega),xBG (by omega),g1]
    · rw [xBE (by simp; omega),xBG (by omega),xBG (by omega),g2]
    · refine ⟨mv,.own false (G1.length + 1) 0 (w.length + 1) 1,?_,?_,.inr ⟨G1.length + 1,by simp,by omega,?_⟩⟩
      · rw [xBE (by simp; omega),xCi (by simp; omega)]
      · rcases t2 with t2 | ⟨q,e,hq,hm⟩
        · exact .inl t2
        · have := xNO hm
          exact .inr ⟨q,e,hq,by rw [xBE (by simp; omega),xBG (by omega),xBG (by rintro rfl; rw [hbw] at hm; cases hm)]; exact hm⟩
      · rw [xB5 (by simp)]; rfl
    · simp; omega
theorem xYS (hV : Vm M) (hL : Lo M.i p q) (h : Inv18 M z1 z2 p q G ks w) (hk : (s,xFw p q n) ∈ ks) (hl : w.length = ks.length) (hw : w.length < 1099511627) (hn : n < 1099511627) :
    ∃ G' p' q' a b,L.loop xFM xOl ⟨F18 s n,G⟩ = some (.ret,⟨F18 s n,G'⟩) ∧ G'[2]? = some (.cells false false [.own false a 0 p'.length 1,.own false b 0 q'.length 1]) ∧ a ≠ b ∧ 2 < a ∧ 2 < b ∧
      G'[a]? = some (.cells false false (bs p')) ∧ G'[b]? = some (.cells false false (bs q')) ∧ Canon (xAJ (w.take (pos (s,xFw p q n) ks)) (w.drop (pos (s,xFw p q n) ks))) p' q' ∧ p'.length ≤ w.length ∧ q'.length ≤ w.length := by
  obtain ⟨G1,a,b,p',q',k1,k2,k3,k4,k5,k6,k7,k8,k9,k10⟩ := xV9 (T := 3) (B := 4) (by omega) h.len h.tr hk hl (by omega)
  have g2 := (k10.2 2 (by omega) (by omega)).trans h.g2
  have hlen : 4 ≤ G1.length := by have := h.len; have := k10.1; omega
  have h1 := h.g1
  have ha := xNO k6
  have hb := xNO k7
  have p4 := hL.p4
  have q4 := hL.q4
  have hix := xKV z1 z2 p q (n : Nat) (by omega) (by omega) (by omega) (by omega)
  rw [xKl hL.q0] at hix
  generalize xFw p q n = t at *
  simp only [las] at hix
  simp only [kv2] at k1
  refine ⟨G1.set 2 (.cells false false [.own false a 0 p'.length 1,.own false b 0 q'.length 1]) ++ [.cells false false [.own false a 0 p'.length 1,.own false b 0 q'.length 1]],p',q',a,b,?_,?_,k5,by omega,by omega,?_,?_,k2,k8,k9⟩
  · rw [xSd]
    simp (maxSteps := 30000000) (disch := first | assumption | omega | (simp only [WL,AV.isCell] <;> omega) | rfl | decide) only [↓reduceIte,WB,xAs,xAc,xAr,xAk,xAj,AV.cells,AV.isCell,xAb,xAd,xAe,WP,xAF,xAt,xBj,xBh,xBd,xAz,xAI,xAG,W2,xAf,xAg,xAh,Nat.reduceAdd,Nat.reduceSub,Nat.reduceLeDiff,Nat.reduceMul,Int.reduceAdd,Int.reduceSub,Int.reduceMul,Int.reduceLT,Int.reduceLE,Int.reduceEq,Int.reduceToNat,Int.reduceNeg,Nat.reduceEqDiff,Nat.reduceBEq,Nat.reduceLT,xBE,xB5,xCt,xCI,xCJ,xCK,xBG,xCi,xAW,xAX,xDi,xEh,List.length_map,List.set_set,xLZ,xL0,h1,hix,k1,g2]
    try rfl
  · rw [xBE (by simp; omega),xCi (by omega)]
  · rw [xBE (by simp; omega),xBG (by omega),k6]
  · rw [xBE (by simp; omega),xBG (by omega),k7]
end
section
variable {M : Ma} {z1 z2 : Bool} {p q : List Nat}
theorem xYT (hV : Vm M) (hL : Lo M.i p q) : ∀ e n G,n + e = M.next.length * (p.length + q.length) + 1 → (its (xBA M p q) (M.s,0) n).Nodup → Inv18 M z1 z2 p q G (its (xBA M p q) (M.s,0) n) (lts (xBA M p q) (xWb M p q) (M.s,0) n) →
    ∃ n0 F' G' p' q' a b,yCI (xBA M p q) (M.s,0) n0 ∧ L.loop xFM xOl ⟨F18 (it (xBA M p q) (M.s,0) n).1 n,G⟩ = some (.ret,⟨F',G'⟩) ∧ F'.getD 4 .any = .ptr 2 0 ∧ F'.getD 5 .any = .int .i64 0 ∧ G'[2]? = some (.cells false false [.own false a 0 p'.length 1,.own false b 0 q'.length 1]) ∧ a ≠ b ∧ 2 < a ∧ 2 < b ∧
      G'[a]? = some (.cells false false (bs p')) ∧ G'[b]? = some (.cells false false (bs q')) ∧ Canon (fun j => xWb M p q (it (xBA M p q) (M.s,0) j)) p' q' ∧ p'.length ≤ n0 ∧ q'.length ≤ n0 := by
  intro e
  induction e with
  | zero =>
    intro n G h hd hI
    have := xIc hd (xK9 hV hL n)
    rw [xId] at this
    omega
  | succ e ih =>
    intro n G h hd hI
    have hc := xFx hV hL n
    have hle := xIc hd (xK9 hV hL n)
    rw [xId] at hle
    have p4 := hL.p4
    have q4 := hL.q4
    have hm := Nat.mul_le_mul hV.n9 (show p.length + q.length ≤ 128 by omega)
    have hll : (lts (xBA M p q) (xWb M p q) (M.s,0) n).length = (its (xBA M p q) (M.s,0) n).length := by rw [xFv,xId]
    have hcc : it (xBA M p q) (M.s,0) n = ((it (xBA M p q) (M.s,0) n).1,xFw p q n) := by rw [← hc.2]
    by_cases hk : it (xBA M p q) (M.s,0) n ∈ its (xBA M p q) (M.s,0) n
    · have hk' := hk
      rw [hcc] at hk'
      obtain ⟨G',p',q',a,b,k1,k2,k3,k4,k5,k6,k7,k8,k9,k10⟩ := xYS (s := (it (xBA M p q) (M.s,0) n).1) (n := n) hV hL hI hk' hll (by rw [xFv]; omega) (by omega)
      rw [← hcc] at k8
      rw [xFv] at k9 k10
      have hS : xAJ ((lts (xBA M p q) (xWb M p q) (M.s,0) n).take (pos (it (xBA M p q) (M.s,0) n) (its (xBA M p q) (M.s,0) n))) ((lts (xBA M p q) (xWb M p q) (M.s,0) n).drop (pos (it (xBA M p q) (M.s,0) n) (its (xBA M p q) (M.s,0) n))) = fun j => xWb M p q (it (xBA M p q) (M.s,0) j) := funext fun j => xYR hk j
      rw [hS] at k8
      exact ⟨n,_,G',p',q',a,b,⟨hd,hk⟩,k1,rfl,rfl,k2,k3,k4,k5,k6,k7,k8,k9,k10⟩
    · have hk' := hk
      rw [hcc] at hk'
      obtain ⟨G',k1,k2⟩ := xUF (s := (it (xBA M p q) (M.s,0) n).1) (n := n) hV hL hI hc.1 hk' hll (by rw [xFv]; omega) (by omega)
      rw [← hcc] at k1 k2
      rw [k1]
      refine ih (n + 1) G' (by omega) (xUB hd hk) ?_
      rw [xQy,xWa]
      exact k2
def SL (M : Ma) (p q : List Nat) (j : Nat) : Nat := xWb M p q (it (xBA M p q) (M.s,0) j)
theorem xRi (z1 z2 : Bool) (hV : Vm M) (hL : Lo M.i p q) : ∃ p' q',Canon (SL M p q) p' q' ∧ p'.length ≤ 1000000 ∧ q'.length ≤ 1000000 ∧
    L.pcall 18 [M.av,las z1 z2 p q] = some (.tup [las false false p' q',.int .i64 0]) ∧
    xBe L 18 [M.av,las z1 z2 p q] = some (.tup [.agg [.own false 0 0 p'.length 1,.own false 1 0 q'.length 1],.int .i64 0],[.cells false false (bs p'),.cells false false (bs q')]) := by
  have hc1 := xCh hV
  have p4 := hL.p4
  have q4 := hL.q4
  have io := hV.io
  have hb6 := (xE3 (show M.i ≤ 6 by omega)).1
  have hc2 := xUD (v := M.i) (z1 := z1) (z2 := z2) (p := p) (q := q) (by omega) (by omega) (by omega) (fun x hx => by have := hL.pb x hx; omega) (fun x hx => by have := hL.qb x hx; omega)
  rw [lasE_zero.2 hL] at hc2
  obtain ⟨n0,F',G',p',q',a,b,k0,k1,kf1,kf2,k2,k3,k4,k5,k6,k7,k8,k9,k10⟩ := xYT (z1 := z1) (z2 := z2) hV hL (M.next.length * (p.length + q.length) + 1) 0
    [.cells false false M.cells,.cells false false [xA2 z1 p,xA2 z2 q],.cells false false [.sl true 0 [],.sl true 0 []],.cells false false [.nilm,.sl true 0 []]]
    (by omega) (by simp [its]) ⟨rfl,rfl,rfl,⟨.nilm,.sl true 0 [],rfl,.inl ⟨rfl,rfl⟩,.inl ⟨rfl,rfl⟩⟩,by simp⟩
  have hle := xIc k0.1 (xK9 hV hL n0)
  rw [xId] at hle
  have hm := Nat.mul_le_mul hV.n9 (show p.length + q.length ≤ 128 by omega)
  refine ⟨p',q',k8,by omega,by omega,?_,?_⟩
  · have e1 : (it (xBA M p q) (M.s,0) 0).1 = M.s := rfl
    rw [e1] at k1
    unfold F18 at k1
    unfold Ma.av at hc1 ⊢
    unfold Ma.cells at hc1 k1 ⊢
    simp only [las,Int.natCast_zero] at hc2 k1 ⊢
    rw [yA4,a18,xAl]
    simp (maxSteps := 30000000) (disch := first | assumption | omega | (simp only [WL,AV.isCell] <;> omega) | rfl | decide) only [↓reduceIte,WB,xAs,xAc,xAr,xAk,xAj,AV.cells,AV.isCell,xAb,xAd,xAe,WP,xAF,xAt,xBj,xBh,xBd,xAz,xAI,xAG,W2,xAf,xAg,xAh,Nat.reduceAdd,Nat.reduceSub,Nat.reduceLeDiff,Nat.reduceMul,Int.reduceAdd,Int.reduceSub,Int.reduceMul,Int.reduceLT,Int.reduceLE,Int.reduceEq,Int.reduceToNat,Int.reduceNeg,Nat.reduceEqDiff,Nat.reduceBEq,Nat.reduceLT,xBE,xB5,xCt,xCI,xCJ,xCK,xBG,xCi,List.length_map,xL0,hc1,hc2,k1,kf1,kf2,k2,k6,k7]
  · have hab : (a == b) = false := by simpa using k3
    have e1 : (it (xBA M p q) (M.s,0) 0).1 = M.s := rfl
    rw [e1] at k1
    unfold F18 at k1
    unfold Ma.av at hc1 ⊢
    unfold Ma.cells at hc1 k1 ⊢
    simp only [las,Int.natCast_zero] at hc2 k1 ⊢
    rw [xBf,yA5,a18,xBm]
    simp (maxSteps := 30000000) (disch := first | assumption | omega | (simp only [WL,AV.isCell] <;> omega) | rfl | decide) only [↓reduceIte,WB,xAs,xAc,xAr,xAk,xAj,AV.cells,AV.isCell,xAb,xAd,xAe,WP,xAF,xAt,xBj,xBh,xBd,xAz,xAI,xAG,W2,xAf,xAg,xAh,Nat.reduceAdd,Nat.reduceSub,Nat.reduceLeDiff,Nat.reduceMul,Int.reduceAdd,Int.reduceSub,Int.reduceMul,Int.reduceLT,Int.reduceLE,Int.reduceEq,Int.reduceToNat,Int.reduceNeg,Nat.reduceEqDiff,Nat.reduceBEq,Nat.reduceLT,xBE,xB5,xCt,xCI,xCJ,xCK,xBG,xCi,List.length_map,xL0,hc1,hc2,k1,kf1,kf2,k2,hab,k6,k7]
theorem xRj {m : Mf} (hS : Sm m) (h : xLf m ≠ 0) : L.pcall 18 [m.av,las z1 z2 p q] = some (.tup [xNP,.int .i64 (xLf m)]) ∧ xBe L 18 [m.av,las z1 z2 p q] = some (.tup [xNP,.int .i64 (xLf m)],[]) := by
  have hc := xK1 hS
  generalize xLf m = e at *
  unfold Mf.av at hc ⊢
  unfold Mf.cells at hc ⊢
  constructor
  · rw [yA4,a18,xAl]
    simp (maxSteps := 30000000) (disch := first | assumption | omega | (simp only [WL,AV.isCell] <;> omega) | rfl | decide) only [↓reduceIte,WB,xAs,xAc,xAr,xAk,xAj,AV.cells,AV.isCell,xAb,xAd,xAe,WP,xAF,xAt,xBj,xBh,xBd,xAz,xAI,xAG,W2,xAf,xAg,xAh,Nat.reduceAdd,Nat.reduceSub,Nat.reduceLeDiff,Nat.reduceMul,Int.reduceAdd,Int.reduceSub,Int.reduceMul,Int.reduceLT,Int.reduceLE,Int.reduceEq,Int.reduceToNat,Int.reduceNeg,Nat.reduceEqDiff,Nat.reduceBEq,Nat.reduceLT,xBE,xB5,xCt,xCI,xCJ,xCK,xBG,xCi,List.length_map,hc,h]
  · rw [xBf,yA5,a18,xBm]
    simp (maxSteps := 30000000) (disch := first | assumption | omega | (simp only [WL,AV.isCell] <;> omega) | rfl | decide) only [↓reduceIte,WB,xAs,xAc,xAr,xAk,xAj,AV.cells,AV.isCell,xAb,xAd,xAe,WP,xAF,xAt,xBj,xBh,xBd,xAz,xAI,xAG,W2,xAf,xAg,xAh,Nat.reduceAdd,Nat.reduceSub,Nat.reduceLeDiff,Nat.reduceMul,Int.reduceAdd,Int.reduceSub,Int.reduceMul,Int.reduceLT,Int.reduceLE,Int.reduceEq,Int.reduceToNat,Int.reduceNeg,Nat.reduceEqDiff,Nat.reduceBEq,Nat.reduceLT,xBE,xB5,xCt,xCI,xCJ,xCK,xBG,xCi,List.length_map,hc,h]
theorem xRk (hV : Vm M) (hp : p.length < 1099511627776) (hq : q.length < 1099511627776) (bp : ∀ x ∈ p,x < 256) (bq : ∀ x ∈ q,x < 256) (h : xUC M.i p q ≠ 0) : L.pcall 18 [M.av,las z1 z2 p q] = some (.tup [xNP,.int .i64 (xUC M.i p q)]) ∧ xBe L 18 [M.av,las z1 z2 p q] = some (.tup [xNP,.int .i64 (xUC M.i p q)],[]) := by
  have hc1 := xCh hV
  have io := hV.io
  have hc2 := xUD (v := M.i) (z1 := z1) (z2 := z2) (p := p) (q := q) (by omega) hp hq bp bq
  generalize xUC M.i p q = e at *
  unfold Ma.av at hc1 ⊢
  unfold Ma.cells at hc1 ⊢
  simp only [las] at hc2 ⊢
  constructor
  · rw [yA4,a18,xAl]
    simp (maxSteps := 30000000) (disch := first | assumption | omega | (simp only [WL,AV.isCell] <;> omega) | rfl | decide) only [↓reduceIte,WB,xAs,xAc,xAr,xAk,xAj,AV.cells,AV.isCell,xAb,xAd,xAe,WP,xAF,xAt,xBj,xBh,xBd,xAz,xAI,xAG,W2,xAf,xAg,xAh,Nat.reduceAdd,Nat.reduceSub,Nat.reduceLeDiff,Nat.reduceMul,Int.reduceAdd,Int.reduceSub,Int.reduceMul,Int.reduceLT,Int.reduceLE,Int.reduceEq,Int.reduceToNat,Int.reduceNeg,Nat.reduceEqDiff,Nat.reduceBEq,Nat.reduceLT,xBE,xB5,xCt,xCI,xCJ,xCK,xBG,xCi,List.length_map,hc1,hc2,h]
  · rw [xBf,yA5,a18,xBm]
    simp (maxSteps := 30000000) (disch := first | assumption | omega | (simp only [WL,AV.isCell] <;> omega) | rfl | decide) only [↓reduceIte,WB,xAs,xAc,xAr,xAk,xAj,AV.cells,AV.isCell,xAb,xAd,xAe,WP,xAF,xAt,xBj,xBh,xBd,xAz,xAI,xAG,W2,xAf,xAg,xAh,Nat.reduceAdd,Nat.reduceSub,Nat.reduceLeDiff,Nat.reduceMul,Int.reduceAdd,Int.reduceSub,Int.reduceMul,Int.reduceLT,Int.reduceLE,Int.reduceEq,Int.reduceToNat,Int.reduceNeg,Nat.reduceEqDiff,Nat.reduceBEq,Nat.reduceLT,xBE,xB5,xCt,xCI,xCJ,xCK,xBG,xCi,List.length_map,hc1,hc2,h]
def xWc (v : Nat) (w : List Nat) : Int := if 64 < w.length then 4 else if xGd (two v) w = true then 1 else 0
theorem runE_zero {v : Nat} {w : List Nat} : xWc v w = 0 ↔ w.length ≤ 64 ∧ ∀ x ∈ w,x < two v := by
  unfold xWc
  by_cases c : 64 < w.length
  · rw [if_pos c]; exact ⟨fun h => by omega,fun h => by omega⟩
  · rw [if_neg c]
    by_cases c2 : xGd (two v) w = true
    · rw [if_pos c2]
      exact ⟨fun h => by omega,fun h => by rw [bigW_iff.2 h.2] at c2; cases c2⟩
    · rw [if_neg c2]
      exact ⟨fun _ => ⟨by omega,bigW_iff.1 (by simpa using c2)⟩,fun _ => rfl⟩
variable {w : List Nat} {zw : Bool}
theorem yAz (hV : Vm M) (hb : ∀ x ∈ w,x < 256) (hw : w.length < 1099511627776) : L.icall (.func 52 []) [.sl zw w.length (bs w),.func 53 [.ptr 0 0]] [.cells false false M.cells] = some (.bool (xGd (two M.i) w),[.cells false false M.cells]) :=
  yAu (P := fun x => decide (two M.i ≤ x)) (by omega) hb (fun s hs => yBL hV hs rfl)
theorem xWd {m : Mf} (hS : Sm m) (h : xLf m ≠ 0) : L.pcall 16 [m.av,xA2 zw w] = some (.tup [.sl true 0 [],.sl true 0 [],.int .i64 (xLf m)]) ∧ xBe L 16 [m.av,xA2 zw w] = some (.tup [.sl true 0 [],.sl true 0 [],.int .i64 (xLf m)],[]) := by
  have hc := xK1 hS
  generalize xLf m = e at *
  unfold Mf.av at hc ⊢
  unfold Mf.cells at hc ⊢
  constructor
  · rw [xZM,a16,xAl]
    simp (maxSteps := 30000000) (disch := first | assumption | omega | (simp only [WL,AV.isCell] <;> omega) | rfl | decide) only [↓reduceIte,WB,xAs,xAc,xAr,xAk,xAj,AV.cells,AV.isCell,xAb,xAd,xAe,WP,xAF,xAt,xBj,xBh,xBd,xAz,xAI,xAG,W2,xAf,xAg,xAh,Nat.reduceAdd,Nat.reduceSub,Nat.reduceLeDiff,Nat.reduceMul,Int.reduceAdd,Int.reduceSub,Int.reduceMul,Int.reduceLT,Int.reduceLE,Int.reduceEq,Int.reduceToNat,Int.reduceNeg,Nat.reduceEqDiff,Nat.reduceBEq,Nat.reduceLT,xBE,xB5,xCt,xCI,xCJ,xCK,xBG,xCi,List.length_map,hc,h]
  · rw [xBf,xZN,a16,xBm]
    simp (maxSteps := 30000000) (disch := first | assumption | omega | (simp only [WL,AV.isCell] <;> omega) | rfl | decide) only [↓reduceIte,WB,xAs,xAc,xAr,xAk,xAj,AV.cells,AV.isCell,xAb,xAd,xAe,WP,xAF,xAt,xBj,xBh,xBd,xAz,xAI,xAG,W2,xAf,xAg,xAh,Nat.reduceAdd,Nat.reduceSub,Nat.reduceLeDiff,Nat.reduceMul,Int.reduceAdd,Int.reduceSub,Int.reduceMul,Int.reduceLT,Int.reduceLE,Int.reduceEq,Int.reduceToNat,Int.reduceNeg,Nat.reduceEqDiff,Nat.reduceBEq,Nat.reduceLT,xBE,xB5,xCt,xCI,xCJ,xCK,xBG,xCi,List.length_map,hc,h]
theorem xWe (hV : Vm M) (hb : ∀ x ∈ w,x < 256) (hw : w.length < 1099511627776) (h : xWc M.i w ≠ 0) : L.pcall 16 [M.av,xA2 zw w] = some (.tup [.sl true 0 [],.sl true 0 [],.int .i64 (xWc M.i w)]) ∧ xBe L 16 [M.av,xA2 zw w] = some (.tup [.sl true 0 [],.sl true 0 [],.int .i64 (xWc M.i w)],[]) := by
  have hc := xCh hV
  have ha := yAz (zw := zw) hV hb hw
  unfold xWc at h ⊢
  unfold Ma.av at hc ⊢
  unfold Ma.cells at hc ha ⊢
  by_cases c : 64 < w.length
  · rw [if_pos c]
    have c' : (64 : Int) < (w.length : Nat) := by omega
    constructor
    · rw [xZM,a16,xAl]
      simp (maxSteps := 30000000) (disch := first | assumption | omega | (simp only [WL,AV.isCell] <;> omega) | rfl | decide) only [↓reduceIte,WB,xAs,xAc,xAr,xAk,xAj,AV.cells,AV.isCell,xAb,xAd,xAe,WP,xAF,xAt,xBj,xBh,xBd,xAz,xAI,xAG,W2,xAf,xAg,xAh,Nat.reduceAdd,Nat.reduceSub,Nat.reduceLeDiff,Nat.reduceMul,Int.reduceAdd,Int.reduceSub,Int.reduceMul,Int.reduceLT,Int.reduceLE,Int.reduceEq,Int.reduceToNat,Int.reduceNeg,Nat.reduceEqDiff,Nat.reduceBEq,Nat.reduceLT,xBE,xB5,xCt,xCI,xCJ,xCK,xBG,xCi,List.length_map,hc,c']
    · rw [xBf,xZN,a16,xBm]
      simp (maxSteps := 30000000) (disch := first | assumption | omega | (simp only [WL,AV.isCell] <;> omega) | rfl | decide) only [↓reduceIte,WB,xAs,xAc,xAr,xAk,xAj,AV.cells,AV.isCell,xAb,xAd,xAe,WP,xAF,xAt,xBj,xBh,xBd,xAz,xAI,xAG,W2,xAf,xAg,xAh,Nat.reduceAdd,Nat.reduceSub,Nat.reduceLeDiff,Nat.reduceMul,Int.reduceAdd,Int.reduceSub,Int.reduceMul,Int.reduceLT,Int.reduceLE,Int.reduceEq,Int.reduceToNat,Int.reduceNeg,Nat.reduceEqDiff,Nat.reduceBEq,Nat.reduceLT,xBE,xB5,xCt,xCI,xCJ,xCK,xBG,xCi,List.length_map,hc,c']
  · rw [if_neg c] at h ⊢
    have c' : ¬ (64 : Int) < (w.length : Nat) := by omega
    by_cases c2 : xGd (two M.i) w = true
    · rw [if_pos c2]
      rw [c2] at ha
      constructor
      · rw [xZM,a16,xAl]
        simp (maxSteps := 30000000) (disch := first | assumption | omega | (simp only [WL,AV.isCell] <;> omega) | rfl | decide) only [↓reduceIte,WB,xAs,xAc,xAr,xAk,xAj,AV.cells,AV.isCell,xAb,xAd,xAe,WP,xAF,xAt,xBj,xBh,xBd,xAz,xAI,xAG,W2,xAf,xAg,xAh,Nat.reduceAdd,Nat.reduceSub,Nat.reduceLeDiff,Nat.reduceMul,Int.reduceAdd,Int.reduceSub,Int.reduceMul,Int.reduceLT,Int.reduceLE,Int.reduceEq,Int.reduceToNat,Int.reduceNeg,Nat.reduceEqDiff,Nat.reduceBEq,Nat.reduceLT,xBE,xB5,xCt,xCI,xCJ,xCK,xBG,xCi,List.length_map,hc,c',ha]
      · rw [xBf,xZN,a16,xBm]
        simp (maxSteps := 30000000) (disch := first | assumption | omega | (simp only [WL,AV.isCell] <;> omega) | rfl | decide) only [↓reduceIte,WB,xAs,xAc,xAr,xAk,xAj,AV.cells,AV.isCell,xAb,xAd,xAe,WP,xAF,xAt,xBj,xBh,xBd,xAz,xAI,xAG,W2,xAf,xAg,xAh,Nat.reduceAdd,Nat.reduceSub,Nat.reduceLeDiff,Nat.reduceMul,Int.reduceAdd,Int.reduceSub,Int.reduceMul,Int.reduceLT,Int.reduceLE,Int.reduceEq,Int.reduceToNat,Int.reduceNeg,Nat.reduceEqDiff,Nat.reduceBEq,Nat.reduceLT,xBE,xB5,xCt,xCI,xCJ,xCK,xBG,xCi,List.length_map,hc,c',ha]
    · rw [if_neg c2] at h; exact absurd rfl h
theorem xLa (hV : Vm M) (h : xWc M.i w = 0) : (∃ z,L.pcall 16 [M.av,xA2 zw w] = some (.tup [.sl z w.length (bs (xF8 M M.s w)),.sl false (w.length + 1) (xBV (M.s :: xNT M M.s w)),.int .i64 0])) ∧
    ((w = [] ∧ xBe L 16 [M.av,xA2 zw w] = some (.tup [.sl true 0 [],.own false 0 0 1 1,.int .i64 0],[.cells false false (xBV [M.s])])) ∨
      xBe L 16 [M.av,xA2 zw w] = some (.tup [.own false 0 0 w.length 1,.own false 1 0 (w.length + 1) 1,.int .i64 0],[.cells false false (bs (xF8 M M.s w)),.cells false false (xBV (M.s :: xNT M M.s w))])) := by
  have hz := runE_zero.1 h
  have io := hV.io
  have hb6 := (xE3 (show M.i ≤ 6 by omega)).1
  have hb : ∀ x ∈ w,x < 256 := fun x hx => by have := hz.2 x hx; omega
  have hc := xCh hV
  have ha := yAz (zw := zw) hV hb (by omega)
  rw [bigW_iff.2 hz.2] at ha
  have c' : ¬ (64 : Int) < (w.length : Nat) := by omega
  by_cases hw0 : w = []
  · subst hw0
    unfold Ma.av at hc ⊢
    unfold Ma.cells at hc ha ⊢
    have e1 : M.s :: xNT M M.s [] = [M.s] := rfl
    have e2 : xF8 M M.s [] = [] := rfl
    rw [e1,e2]
    simp only [xA2,List.length_nil,bs,List.map_nil] at ha ⊢
    refine ⟨⟨true,?_⟩,.inl ⟨trivial,?_⟩⟩
    · rw [xZM,a16,xAl]
      simp (maxSteps := 30000000) (disch := first | assumption | omega | (simp only [WL,AV.isCell] <;> omega) | rfl | decide) only [↓reduceIte,WB,xAs,xAc,xAr,xAk,xAj,AV.cells,AV.isCell,xAb,xAd,xAe,WP,xAF,xAt,xBj,xBh,xBd,xAz,xAI,xAG,W2,xAf,xAg,xAh,Nat.reduceAdd,Nat.reduceSub,Nat.reduceLeDiff,Nat.reduceMul,Int.reduceAdd,Int.reduceSub,Int.reduceMul,Int.reduceLT,Int.reduceLE,Int.reduceEq,Int.reduceToNat,Int.reduceNeg,Nat.reduceEqDiff,Nat.reduceBEq,Nat.reduceLT,xBE,xB5,xCt,xCI,xCJ,xCK,xBG,xCi,List.length_map,xG0,xLY,xGY,hc,ha]
      try rfl
    · rw [xBf,xZN,a16,xBm]
      simp (maxSteps := 30000000) (disch := first | assumption | omega | (simp only [WL,AV.isCell] <;> omega) | rfl | decide) only [↓reduceIte,WB,xAs,xAc,xAr,xAk,xAj,AV.cells,AV.isCell,xAb,xAd,xAe,WP,xAF,xAt,xBj,xBh,xBd,xAz,xAI,xAG,W2,xAf,xAg,xAh,Nat.reduceAdd,Nat.reduceSub,Nat.reduceLeDiff,Nat.reduceMul,Int.reduceAdd,Int.reduceSub,Int.reduceMul,Int.reduceLT,Int.reduceLE,Int.reduceEq,Int.reduceToNat,Int.reduceNeg,Nat.reduceEqDiff,Nat.reduceBEq,Nat.reduceLT,xBE,xB5,xCt,xCI,xCJ,xCK,xBG,xCi,List.length_map,xG0,xLY,xGY,hc,ha]
      try rfl
  obtain ⟨G',ov',sv',s',j1,j2⟩ := xYQ (zw := zw) hV hz.2 (by omega) w.length 0 M.s [] [M.s] (.sl true 0 []) (.own false 1 0 1 1) [.cells false false M.cells,.cells false false (xBV [M.s])] (by omega) hV.s rfl ⟨1,rfl,by omega,rfl,.inl ⟨rfl,rfl⟩⟩ rfl rfl
  rw [List.drop_zero,List.nil_append] at j2
  obtain ⟨b,rfl,hb1,hbs,h3⟩ := j2
  have lo := xDW M w M.s
  have lt := xK6 M w M.s
  have ls : ([M.s] ++ xNT M M.s w).length = w.length + 1 := by simp [lt]
  unfold F16 at j1
  simp only [Int.natCast_zero] at j1
  unfold Ma.av at hc ⊢
  unfold Ma.cells at hc ha j1 ⊢
  rw [ls] at j1
  have his : xBV [M.s] = [.int .i64 (M.s : Nat)] := rfl
  rw [his] at j1
  rw [List.singleton_append] at hbs
  have lss : (M.s :: xNT M M.s w).length = w.length + 1 := by rw [List.length_cons,lt]
  generalize M.s :: xNT M M.s w = st at *
  rcases h3 with ⟨rfl,h4⟩ | ⟨a,rfl,ha1,hab,has⟩
  · rw [h4] at lo; exact absurd (List.length_eq_zero_iff.1 lo.symm) hw0
  · have hab' : (a == b) = false := by simpa using hab
    rw [lo] at j1
    refine ⟨⟨false,?_⟩,.inr ?_⟩
    · rw [xZM,a16,xAl]
      simp (maxSteps := 30000000) (disch := first | assumption | omega | (simp only [WL,AV.isCell] <;> omega) | rfl | decide) only [↓reduceIte,WB,xAs,xAc,xAr,xAk,xAj,AV.cells,AV.isCell,xAb,xAd,xAe,WP,xAF,xAt,xBj,xBh,xBd,xAz,xAI,xAG,W2,xAf,xAg,xAh,Nat.reduceAdd,Nat.reduceSub,Nat.reduceLeDiff,Nat.reduceMul,Int.reduceAdd,Int.reduceSub,Int.reduceMul,Int.reduceLT,Int.reduceLE,Int.reduceEq,Int.reduceToNat,Int.reduceNeg,Nat.reduceEqDiff,Nat.reduceBEq,Nat.reduceLT,xBE,xB5,xCt,xCI,xCJ,xCK,xBG,xCi,List.length_map,xG0,hc,c',ha,j1,hbs,has,lo,lss]
      rw [List.take_of_length_le (by omega),List.take_of_length_le (by omega)]
    · rw [xBf,xZN,a16,xBm]
      simp (maxSteps := 30000000) (disch := first | assumption | omega | (simp only [WL,AV.isCell] <;> omega) | rfl | decide) only [↓reduceIte,WB,xAs,xAc,xAr,xAk,xAj,AV.cells,AV.isCell,xAb,xAd,xAe,WP,xAF,xAt,xBj,xBh,xBd,xAz,xAI,xAG,W2,xAf,xAg,xAh,Nat.reduceAdd,Nat.reduceSub,Nat.reduceLeDiff,Nat.reduceMul,Int.reduceAdd,Int.reduceSub,Int.reduceMul,Int.reduceLT,Int.reduceLE,Int.reduceEq,Int.reduceToNat,Int.reduceNeg,Nat.reduceEqDiff,Nat.reduceBEq,Nat.reduceLT,xBE,xB5,xCt,xCI,xCJ,xCK,xBG,xCi,List.length_map,xG0,hc,c',ha,j1,hbs,has,hab',lo,lss]
end
abbrev TMa : TS := ⟨true,[.int .i64,.int .i64,.int .i64,.sl [.sl [.int .i64]],.sl [.sl [.int .u8]]]⟩
abbrev yBN : TS := ⟨true,[.sl [.int .u8],.sl [.int .u8]]⟩
abbrev TU8 : TS := ⟨false,[.int .u8]⟩
theorem xE5 {α : Type} {f : α → AV} {P : α → Prop} : ∀ (cs : List AV),(∀ x ∈ cs,∃ a,x = f a ∧ P a) → ∃ l : List α,cs = l.map f ∧ ∀ a ∈ l,P a
  | [],_ => ⟨[],rfl,by simp⟩
  | c :: cs,h => by
    obtain ⟨a,rfl,ha⟩ := h c (by simp)
    obtain ⟨l,rfl,hl⟩ := xE5 cs (fun x hx => h x (by simp [hx]))
    exact ⟨a :: l,rfl,by simpa using ⟨ha,hl⟩⟩
theorem yAA {a : AV} (h : Fit (.sl [.int .i64]) a) : ∃ r,a = rwV r ∧ (r.z = true → r.l = []) := by
  obtain ⟨z,cs,rfl,hz,_,hf⟩ := xLe h
  obtain ⟨l,rfl,_⟩ := xE5 (f := fun n : Int => AV.int .i64 n) (P := fun _ => True) cs (fun x hx => by obtain ⟨n,rfl,_⟩ := xLd (hf x hx); exact ⟨n,rfl,trivial⟩)
  exact ⟨⟨z,l⟩,by simp [rwV,xCq],by simpa using hz⟩
theorem xUG {a : AV} (h : Fit (.sl [.int .u8]) a) : ∃ w : Wd,a = wdV w ∧ (w.z = true → w.l = []) ∧ ∀ x ∈ w.l,x < 256 := by
  obtain ⟨z,cs,rfl,hz,_,hf⟩ := xLe h
  obtain ⟨l,rfl,hl⟩ := xE5 (f := fun n : Nat => AV.int .u8 n) (P := fun n => n < 256) cs (fun x hx => by obtain ⟨n,rfl,h⟩ := xXu (hf x hx); exact ⟨n,rfl,h⟩)
  exact ⟨⟨z,l⟩,by simp [wdV,bs],by simpa using hz,hl⟩
structure In (m : Mf) : Prop where
  i : -9223372036854775808 ≤ m.i ∧ m.i < 9223372036854775808
  o : -9223372036854775808 ≤ m.o ∧ m.o < 9223372036854775808
  s : -9223372036854775808 ≤ m.s ∧ m.s < 9223372036854775808
  cn : Cn m
  nl : m.next.length ≤ 9223372036854775807
  b : ∀ w ∈ m.emit,∀ x ∈ w.l,x < 256
theorem yAB {a : AV} (h : xRl TMa a) : ∃ m : Mf,a = m.av ∧ In m := by
  obtain ⟨cs,rfl,h'⟩ := xNS h
  obtain ⟨a1,cs,rfl,h1,h'⟩ := xBI h'
  obtain ⟨a2,cs,rfl,h2,h'⟩ := xBI h'
  obtain ⟨a3,cs,rfl,h3,h'⟩ := xBI h'
  obtain ⟨a4,cs,rfl,h4,h'⟩ := xBI h'
  obtain ⟨a5,cs,rfl,h5,h'⟩ := xBI h'
  obtain rfl := xKm h'
  obtain ⟨i,rfl,b1⟩ := xLd h1
  obtain ⟨o,rfl,b2⟩ := xLd h2
  obtain ⟨s,rfl,b3⟩ := xLd h3
  obtain ⟨z,c4,rfl,z4,q4,hf⟩ := xLe h4
  obtain ⟨nx,rfl,p4⟩ := xE5 (f := rwV) (P := fun r => r.z = true → r.l = []) c4 (fun x hx => yAA (hf x hx))
  obtain ⟨ze,c5,rfl,z5,_,hf5⟩ := xLe h5
  obtain ⟨emi,rfl,p5⟩ := xE5 (f := wdV) (P := fun r => (r.z = true → r.l = []) ∧ ∀ x ∈ r.l,x < 256) c5 (fun x hx => xUG (hf5 x hx))
  exact ⟨⟨i,o,s,z,nx,ze,emi⟩,by simp [Mf.av,Mf.cells],⟨⟨b1.1,Int.lt_of_le_of_lt b1.2 (by decide)⟩,⟨b2.1,Int.lt_of_le_of_lt b2.2 (by decide)⟩,⟨b3.1,Int.lt_of_le_of_lt b3.2 (by decide)⟩,⟨by simpa using z4,by simpa using z5,p4,fun w hw => (p5 w hw).1⟩,by simpa [maxLen] using q4,fun w hw => (p5 w hw).2⟩⟩
theorem xYU {a : AV} (h : xRl yBN a) : ∃ z1 z2 p q,a = las z1 z2 p q ∧ (z1 = true → p = []) ∧ (z2 = true → q = []) ∧ (∀ x ∈ p,x < 256) ∧ ∀ x ∈ q,x < 256 := by
  obtain ⟨cs,rfl,h'⟩ := xNS h
  obtain ⟨a1,cs,rfl,h1,h'⟩ := xBI h'
  obtain ⟨a2,cs,rfl,h2,h'⟩ := xBI h'
  obtain rfl := xKm h'
  obtain ⟨p,rfl,x1,y1⟩ := xUG h1
  obtain ⟨q,rfl,x2,y2⟩ := xUG h2
  exact ⟨p.z,q.z,p.l,q.l,rfl,x1,x2,y1,y2⟩
def xIk (l : List Rw) : Bool := l.any fun r => decide (66 < r.l.length)
def xIl (l : List Wd) : Bool := l.any fun r => decide (66 < r.l.length)
def xE6 (m : Mf) : Bool := decide (14 < m.next.length ∨ 16 < m.emit.length) || xIk m.next || xIl m.emit
section
variable {cs : List AV} {nm k : Nat} {m : Mf} {s3 s4 s5 : AV} {H : Heap}
theorem yAC (hk : k < nm) (hcs : cs.length = nm * 5) (h3 : List.take 1 (List.drop (k * 5 + 3) cs) = [.sl m.z m.next.length (m.next.map rwV)]) (hn : m.next.length ≤ 14) (hnm : nm < 100) : ∀ e i,i + e = m.next.length →
    ∃ j : Nat,L.loop xLV xVk ⟨xIH (.sl false nm cs) (.bool false) (.int .i64 (k : Nat)) (.int .i64 (i : Nat)),H⟩ =
      some (if xIk (m.next.drop i) = true then (.ret,⟨xIH (.sl false nm cs) (.bool true) (.int .i64 (k : Nat)) (.int .i64 (j : Nat)),H⟩)
        else (.exit 2,⟨xIH (.sl false nm cs) (.bool false) (.int .i64 (k : Nat)) (.int .i64 (m.next.length : Nat)),H⟩)) := by
  intro e
  induction e with
  | zero =>
    intro i h
    obtain rfl : i = m.next.length := by omega
    refine ⟨0,?_⟩
    rw [if_neg (by rw [List.drop_length]; simp [xIk]),xR9]
    simp (maxSteps := 30000000) (disch := first | assumption | omega | (simp only [WL,AV.isCell] <;> omega) | rfl | decide) only [↓reduceIte,WB,xAs,xAc,xAr,xAk,xAj,AV.cells,AV.isCell,xAb,xAd,xAe,W2,xAf,xAg,xAh,Nat.reduceAdd,Nat.reduceSub,Nat.reduceLeDiff,Nat.reduceMul,Int.reduceAdd,Int.reduceSub,Int.reduceMul,Int.reduceLT,Int.reduceLE,Int.reduceEq,Int.reduceToNat,Int.reduceNeg,Nat.reduceEqDiff,Nat.reduceBEq,Nat.reduceLT,xAA,xAB,List.length_map,xIG,xFL,h3]
  | succ e ih =>
    intro i h
    have hlt : (i : Int) < (m.next.length : Nat) := by omega
    obtain ⟨j,ih'⟩ := ih (i + 1) (by omega)
    have hrv : rwV (m.next.getD i r0) = .sl (m.next.getD i r0).z (m.next.getD i r0).l.length (xCq (m.next.getD i r0).l) := rfl
    rw [xAZ (a := r0) (by omega : i < m.next.length)]
    have et : ∀ t,xIk (m.next.getD i r0 :: t) = (decide (66 < (m.next.getD i r0).l.length) || xIk t) := fun _ => rfl
    rw [et]
    by_cases c : 66 < (m.next.getD i r0).l.length
    · have c' : (66 : Int) < ((m.next.getD i r0).l.length : Nat) := by omega
      refine ⟨i,?_⟩
      rw [decide_eq_true c,Bool.true_or,if_pos rfl,xR9]
      simp (maxSteps := 30000000) (disch := first | assumption | omega | (simp only [WL,AV.isCell] <;> omega) | rfl | decide) only [↓reduceIte,WB,xAs,xAc,xAr,xAk,xAj,AV.cells,AV.isCell,xAb,xAd,xAe,W2,xAf,xAg,xAh,Nat.reduceAdd,Nat.reduceSub,Nat.reduceLeDiff,Nat.reduceMul,Int.reduceAdd,Int.reduceSub,Int.reduceMul,Int.reduceLT,Int.reduceLE,Int.reduceEq,Int.reduceToNat,Int.reduceNeg,Nat.reduceEqDiff,Nat.reduceBEq,Nat.reduceLT,xAA,xAB,List.length_map,xIG,xFL,h3,hlt,hrv,c']
    · have c' : ¬ (66 : Int) < ((m.next.getD i r0).l.length : Nat) := by omega
      refine ⟨j,?_⟩
      rw [decide_eq_false c,Bool.false_or,xR9]
      by_cases e : xIk (m.next.drop (i + 1)) = true
      · rw [if_pos e] at ih' ⊢
        simp (maxSteps := 30000000) (disch := first | assumption | omega | (simp only [WL,AV.isCell] <;> omega) | rfl | decide) only [↓reduceIte,WB,xAs,xAc,xAr,xAk,xAj,AV.cells,AV.isCell,xAb,xAd,xAe,W2,xAf,xAg,xAh,Nat.reduceAdd,Nat.reduceSub,Nat.reduceLeDiff,Nat.reduceMul,Int.reduceAdd,Int.reduceSub,Int.reduceMul,Int.reduceLT,Int.reduceLE,Int.reduceEq,Int.reduceToNat,Int.reduceNeg,Nat.reduceEqDiff,Nat.reduceBEq,Nat.reduceLT,xAA,xAB,List.length_map,xIG,xFL,h3,hlt,hrv,c',ih']
      · rw [if_neg e] at ih' ⊢
        simp (maxSteps := 30000000) (disch := first | assumption | omega | (simp only [WL,AV.isCell] <;> omega) | rfl | decide) only [↓reduceIte,WB,xAs,xAc,xAr,xAk,xAj,AV.cells,AV.isCell,xAb,xAd,xAe,W2,xAf,xAg,xAh,Nat.reduceAdd,Nat.reduceSub,Nat.reduceLeDiff,Nat.reduceMul,Int.reduceAdd,Int.reduceSub,Int.reduceMul,Int.reduceLT,Int.reduceLE,Int.reduceEq,Int.reduceToNat,Int.reduceNeg,Nat.reduceEqDiff,Nat.reduceBEq,Nat.reduceLT,xAA,xAB,List.length_map,xIG,xFL,h3,hlt,hrv,c',ih']
theorem yAD (hk : k < nm) (hcs : cs.length = nm * 5) (h3 : List.take 1 (List.drop (k * 5 + 4) cs) = [.sl m.ze m.emit.length (m.emit.map wdV)]) (hn : m.emit.length ≤ 16) (hnm : nm < 100) : ∀ e i,i + e = m.emit.length →
    ∃ j : Nat,L.loop xLW xVl ⟨xIJ (.sl false nm cs) (.bool false) (.int .i64 (k : Nat)) (.int .i64 (i : Nat)),H⟩ =
      some (if xIl (m.emit.drop i) = true then (.ret,⟨xIJ (.sl false nm cs) (.bool true) (.int .i64 (k : Nat)) (.int .i64 (j : Nat)),H⟩)
        else (.exit 4,⟨xIJ (.sl false nm cs) (.bool false) (.int .i64 (k : Nat)) (.int .i64 (m.emit.length : Nat)),H⟩)) := by
  intro e
  induction e with
  | zero =>
    intro i h
    obtain rfl : i = m.emit.length := by omega
    refine ⟨0,?_⟩
    rw [if_neg (by rw [List.drop_length]; simp [xIl]),xSa]
    simp (maxSteps := 30000000) (disch := first | assumption | omega | (simp only [WL,AV.isCell] <;> omega) | rfl | decide) only [↓reduceIte,WB,xAs,xAc,xAr,xAk,xAj,AV.cells,AV.isCell,xAb,xAd,xAe,W2,xAf,xAg,xAh,Nat.reduceAdd,Nat.reduceSub,Nat.reduceLeDiff,Nat.reduceMul,Int.reduceAdd,Int.reduceSub,Int.reduceMul,Int.reduceLT,Int.reduceLE,Int.reduceEq,Int.reduceToNat,Int.reduceNeg,Nat.reduceEqDiff,Nat.reduceBEq,Nat.reduceLT,xAA,xAB,List.length_map,xII,xGX,h3]
  | succ e ih =>
    intro i h
    have hlt : (i : Int) < (m.emit.length : Nat) := by omega
    obtain ⟨j,ih'⟩ := ih (i + 1) (by omega)
    have hrv : wdV (m.emit.getD i w0) = .sl (m.emit.getD i w0).z (m.emit.getD i w0).l.length (bs (m.emit.getD i w0).l) := rfl
    rw [xAZ (a := w0) (by omega : i < m.emit.length)]
    have et : ∀ t,xIl (m.emit.getD i w0 :: t) = (decide (66 < (m.emit.getD i w0).l.length) || xIl t) := fun _ => rfl
    rw [et]
    by_cases c : 66 < (m.emit.getD i w0).l.length
    · have c' : (66 : Int) < ((m.emit.getD i w0).l.length : Nat) := by omega
      refine ⟨i,?_⟩
      rw [decide_eq_true c,Bool.true_or,if_pos rfl,xSa]
      simp (maxSteps := 30000000) (disch := first | assumption | omega | (simp only [WL,AV.isCell] <;> omega) | rfl | decide) only [↓reduceIte,WB,xAs,xAc,xAr,xAk,xAj,AV.cells,AV.isCell,xAb,xAd,xAe,W2,xAf,xAg,xAh,Nat.reduceAdd,Nat.reduceSub,Nat.reduceLeDiff,Nat.reduceMul,Int.reduceAdd,Int.reduceSub,Int.reduceMul,Int.reduceLT,Int.reduceLE,Int.reduceEq,Int.reduceToNat,Int.reduceNeg,Nat.reduceEqDiff,Nat.reduceBEq,Nat.reduceLT,xAA,xAB,List.length_map,xII,xGX,h3,hlt,hrv,c']
    · have c' : ¬ (66 : Int) < ((m.emit.getD i w0).l.length : Nat) := by omega
      refine ⟨j,?_⟩
      rw [decide_eq_false c,Bool.false_or,xSa]
      by_cases e : xIl (m.emit.drop (i + 1)) = true
      · rw [if_pos e] at ih' ⊢
        simp (maxSteps := 30000000) (disch := first | assumption | omega | (simp only [WL,AV.isCell] <;> omega) | rfl | decide) only [↓reduceIte,WB,xAs,xAc,xAr,xAk,xAj,AV.cells,AV.isCell,xAb,xAd,xAe,W2,xAf,xAg,xAh,Nat.reduceAdd,Nat.reduceSub,Nat.reduceLeDiff,Nat.reduceMul,Int.reduceAdd,Int.reduceSub,Int.reduceMul,Int.reduceLT,Int.reduceLE,Int.reduceEq,Int.reduceToNat,Int.reduceNeg,Nat.reduceEqDiff,Nat.reduceBEq,Nat.reduceLT,xAA,xAB,List.length_map,xII,xGX,h3,hlt,hrv,c',ih']
      · rw [if_neg e] at ih' ⊢
        simp (maxSteps := 30000000) (disch := first | assumption | omega | (simp only [WL,AV.isCell] <;> omega) | rfl | decide) only [↓reduceIte,WB,xAs,xAc,xAr,xAk,xAj,AV.cells,AV.isCell,xAb,xAd,xAe,W2,xAf,xAg,xAh,Nat.reduceAdd,Nat.reduceSub,Nat.reduceLeDiff,Nat.reduceMul,Int.reduceAdd,Int.reduceSub,Int.reduceMul,Int.reduceLT,Int.reduceLE,Int.reduceEq,Int.reduceToNat,Int.reduceNeg,Nat.reduceEqDiff,Nat.reduceBEq,Nat.reduceLT,xAA,xAB,List.length_map,xII,xGX,h3,hlt,hrv,c',ih']
end
def xDe (ms : List Mf) : List AV := rows Mf.cells ms
theorem xLb (l : List Mf) : (xDe l).length = l.length * 5 := xOy (enc := Mf.cells) (k := 5) (fun _ => rfl) l
def m0 : Mf := ⟨0,0,0,true,[],true,[]⟩
theorem xNQ {l : List Mf} {i : Nat} (h : i < l.length) : List.drop (i * 5) (xDe l) = (l.getD i m0).cells ++ xDe (l.drop (i + 1)) := by
  unfold xDe
  rw [xNJ (enc := Mf.cells) (k := 5) (fun _ => rfl),xAZ (a := m0) h]
  rfl
theorem xWf {l : List Mf} {i : Nat} (h : i < l.length) : List.take 1 (List.drop (i * 5 + 3) (xDe l)) = [.sl (l.getD i m0).z (l.getD i m0).next.length ((l.getD i m0).next.map rwV)] := by
  rw [← List.drop_drop,xNQ h]; rfl
theorem xWg {l : List Mf} {i : Nat} (h : i < l.length) : List.take 1 (List.drop (i * 5 + 4) (xDe l)) = [.sl (l.getD i m0).ze (l.getD i m0).emit.length ((l.getD i m0).emit.map wdV)] := by
  rw [← List.drop_drop,xNQ h]; rfl
theorem xYV {ms : List Mf} {H : Heap} (hm : ms.length < 100) : ∀ e i,i + e = ms.length →
    ∃ j : Nat,L.loop xLX xVm ⟨xIK (.sl false ms.length (xDe ms)) (.bool false) (.int .i64 (i : Nat)),H⟩ =
      some (if (ms.drop i).any xE6 = true then (.ret,⟨xIK (.sl false ms.length (xDe ms)) (.bool true) (.int .i64 (j : Nat)),H⟩)
        else (.exit 0,⟨xIK (.sl false ms.length (xDe ms)) (.bool false) (.int .i64 (ms.length : Nat)),H⟩)) := by
  have hcl := xLb ms
  intro e
  induction e with
  | zero =>
    intro i h
    obtain rfl : i = ms.length := by omega
    refine ⟨0,?_⟩
    rw [if_neg (by rw [List.drop_length]; simp),xIL]
    simp (maxSteps := 30000000) (disch := first | assumption | omega | (simp only [WL,AV.isCell] <;> omega) | rfl | decide) only [↓reduceIte,WB,xAs,xAc,xAr,xAk,xAj,AV.cells,AV.isCell,xAb,xAd,xAe,W2,xAf,xAg,xAh,Nat.reduceAdd,Nat.reduceSub,Nat.reduceLeDiff,Nat.reduceMul,Int.reduceAdd,Int.reduceSub,Int.reduceMul,Int.reduceLT,Int.reduceLE,Int.reduceEq,Int.reduceToNat,Int.reduceNeg,Nat.reduceEqDiff,Nat.reduceBEq,Nat.reduceLT,xAA,xAB,List.length_map,xED,xEE]
  | succ e ih =>
    intro i h
    have hlt : (i : Int) < (ms.length : Nat) := by omega
    obtain ⟨j,ih'⟩ := ih (i + 1) (by omega)
    have h3 := xWf (l := ms) (i := i) (by omega)
    have h4 := xWg (l := ms) (i := i) (by omega)
    rw [xAZ (a := m0) (by omega : i < ms.length),List.any_cons]
    generalize hM : ms.getD i m0 = m at *
    by_cases c1 : 14 < m.next.length
    · have e0 : xE6 m = true := by simp [xE6,c1]
      have c1' : (14 : Int) < (m.next.length : Nat) := by omega
      refine ⟨i,?_⟩
      rw [e0,Bool.true_or,if_pos rfl,xIL]
      simp (maxSteps := 30000000) (disch := first | assumption | omega | (simp only [WL,AV.isCell] <;> omega) | rfl | decide) only [↓reduceIte,WB,xAs,xAc,xAr,xAk,xAj,AV.cells,AV.isCell,xAb,xAd,xAe,W2,xAf,xAg,xAh,Nat.reduceAdd,Nat.reduceSub,Nat.reduceLeDiff,Nat.reduceMul,Int.reduceAdd,Int.reduceSub,Int.reduceMul,Int.reduceLT,Int.reduceLE,Int.reduceEq,Int.reduceToNat,Int.reduceNeg,Nat.reduceEqDiff,Nat.reduceBEq,Nat.reduceLT,xAA,xAB,List.length_map,xED,xEE,hcl,h3,h4,hlt,c1']
    have c1' : ¬ (14 : Int) < (m.next.length : Nat) := by omega
    by_cases c2 : 16 < m.emit.length
    · have e0 : xE6 m = true := by simp [xE6,c2]
      have c2' : (16 : Int) < (m.emit.length : Nat) := by omega
      refine ⟨i,?_⟩
      rw [e0,Bool.true_or,if_pos rfl,xIL]
      simp (maxSteps := 30000000) (disch := first | assumption | omega | (simp only [WL,AV.isCell] <;> omega) | rfl | decide) only [↓reduceIte,WB,xAs,xAc,xAr,xAk,xAj,AV.cells,AV.isCell,xAb,xAd,xAe,W2,xAf,xAg,xAh,Nat.reduceAdd,Nat.reduceSub,Nat.reduceLeDiff,Nat.reduceMul,Int.reduceAdd,Int.reduceSub,Int.reduceMul,Int.reduceLT,Int.reduceLE,Int.reduceEq,Int.reduceToNat,Int.reduceNeg,Nat.reduceEqDiff,Nat.reduceBEq,Nat.reduceLT,xAA,xAB,List.length_map,xED,xEE,hcl,h3,h4,hlt,c1',c2']
    have c2' : ¬ (16 : Int) < (m.emit.length : Nat) := by omega
    obtain ⟨j1,hr⟩ := yAC (H := H) (k := i) (nm := ms.length) (m := m) (by omega) hcl h3 (by omega) hm _ 0 (Nat.zero_add _)
    obtain ⟨j2,hw⟩ := yAD (H := H) (k := i) (nm := ms.length) (m := m) (by omega) hcl h4 (by omega) hm _ 0 (Nat.zero_add _)
    simp only [Int.natCast_zero,List.drop_zero] at hr hw
    have eM : xE6 m = (xIk m.next || xIl m.emit) := by simp [xE6,c1,c2]
    rw [eM]
    by_cases c3 : xIk m.next = true
    · rw [if_pos c3] at hr
      refine ⟨i,?_⟩
      rw [c3,Bool.true_or,Bool.true_or,if_pos rfl,xIL]
      simp (maxSteps := 30000000) (disch := first | assumption | omega | (simp only [WL,AV.isCell] <;> omega) | rfl | decide) only [↓reduceIte,WB,xAs,xAc,xAr,xAk,xAj,AV.cells,AV.isCell,xAb,xAd,xAe,W2,xAf,xAg,xAh,Nat.reduceAdd,Nat.reduceSub,Nat.reduceLeDiff,Nat.reduceMul,Int.reduceAdd,Int.reduceSub,Int.reduceMul,Int.reduceLT,Int.reduceLE,Int.reduceEq,Int.reduceToNat,Int.reduceNeg,Nat.reduceEqDiff,Nat.reduceBEq,Nat.reduceLT,xAA,xAB,List.length_map,xED,xEE,xFL,hcl,h3,h4,hlt,c1',c2',hr]
    rw [if_neg c3] at hr
    by_cases c4 : xIl m.emit = true
    · rw [if_pos c4] at hw
      refine ⟨i,?_⟩
      rw [c4,Bool.or_true,Bool.true_or,if_pos rfl,xIL]
      simp (maxSteps := 30000000) (disch := first | assumption | omega | (simp only [WL,AV.isCell] <;> omega) | rfl | decide) only [↓reduceIte,WB,xAs,xAc,xAr,xAk,xAj,AV.cells,AV.isCell,xAb,xAd,xAe,W2,xAf,xAg,xAh,Nat.reduceAdd,Nat.reduceSub,Nat.reduceLeDiff,Nat.reduceMul,Int.reduceAdd,Int.reduceSub,Int.reduceMul,Int.reduceLT,Int.reduceLE,Int.reduceEq,Int.reduceToNat,Int.reduceNeg,Nat.reduceEqDiff,Nat.reduceBEq,Nat.reduceLT,xAA,xAB,List.length_map,xED,xEE,xFL,xGX,hcl,h3,h4,hlt,c1',c2',hr,hw]
    rw [if_neg c4] at hw
    have c3' : xIk m.next = false := by simpa using c3
    have c4' : xIl m.emit = false := by simpa using c4
    refine ⟨j,?_⟩
    rw [c3',c4',Bool.false_or,Bool.false_or,xIL]
    by_cases e : (ms.drop (i + 1)).any xE6 = true
    · rw [if_pos e] at ih' ⊢
      simp (maxSteps := 30000000) (disch := first | assumption | omega | (simp only [WL,AV.isCell] <;> omega) | rfl | decide) only [↓reduceIte,WB,xAs,xAc,xAr,xAk,xAj,AV.cells,AV.isCell,xAb,xAd,xAe,W2,xAf,xAg,xAh,Nat.reduceAdd,Nat.reduceSub,Nat.reduceLeDiff,Nat.reduceMul,Int.reduceAdd,Int.reduceSub,Int.reduceMul,Int.reduceLT,Int.reduceLE,Int.reduceEq,Int.reduceToNat,Int.reduceNeg,Nat.reduceEqDiff,Nat.reduceBEq,Nat.reduceLT,xAA,xAB,List.length_map,xED,xEE,xFL,xGX,hcl,h3,h4,hlt,c1',c2',hr,hw,ih']
    · rw [if_neg e] at ih' ⊢
      simp (maxSteps := 30000000) (disch := first | assumption | omega | (simp only [WL,AV.isCell] <;> omega) | rfl | decide) only [↓reduceIte,WB,xAs,xAc,xAr,xAk,xAj,AV.cells,AV.isCell,xAb,xAd,xAe,W2,xAf,xAg,xAh,Nat.reduceAdd,Nat.reduceSub,Nat.reduceLeDiff,Nat.reduceMul,Int.reduceAdd,Int.reduceSub,Int.reduceMul,Int.reduceLT,Int.reduceLE,Int.reduceEq,Int.reduceToNat,Int.reduceNeg,Nat.reduceEqDiff,Nat.reduceBEq,Nat.reduceLT,xAA,xAB,List.length_map,xED,xEE,xFL,xGX,hcl,h3,h4,hlt,c1',c2',hr,hw,ih']
theorem yAE (ms : List Mf) (hm : ms.length < 100) : L.pcall 11 [.sl false ms.length (xDe ms)] = some (.bool (ms.any xE6)) := by
  obtain ⟨j,h⟩ := xYV (ms := ms) (H := []) hm _ 0 (Nat.zero_add _)
  simp only [Int.natCast_zero,List.drop_zero] at h
  rw [yCa,a11,xAl]
  cases c : ms.any xE6 with
  | true =>
    rw [if_pos c] at h
    simp (maxSteps := 30000000) (disch := first | assumption | omega | (simp only [WL,AV.isCell] <;> omega) | rfl | decide) only [↓reduceIte,WB,xAs,xAc,xAr,xAk,xAj,AV.cells,AV.isCell,xAb,xAd,xAe,W2,xAf,xAg,xAh,Nat.reduceAdd,Nat.reduceSub,Nat.reduceLeDiff,Nat.reduceMul,Int.reduceAdd,Int.reduceSub,Int.reduceMul,Int.reduceLT,Int.reduceLE,Int.reduceEq,Int.reduceToNat,Int.reduceNeg,Nat.reduceEqDiff,Nat.reduceBEq,Nat.reduceLT,xAA,xAB,List.length_map,xEE,h]
  | false =>
    rw [if_neg (by simp [c])] at h
    simp (maxSteps := 30000000) (disch := first | assumption | omega | (simp only [WL,AV.isCell] <;> omega) | rfl | decide) only [↓reduceIte,WB,xAs,xAc,xAr,xAk,xAj,AV.cells,AV.isCell,xAb,xAd,xAe,W2,xAf,xAg,xAh,Nat.reduceAdd,Nat.reduceSub,Nat.reduceLeDiff,Nat.reduceMul,Int.reduceAdd,Int.reduceSub,Int.reduceMul,Int.reduceLT,Int.reduceLE,Int.reduceEq,Int.reduceToNat,Int.reduceNeg,Nat.reduceEqDiff,Nat.reduceBEq,Nat.reduceLT,xAA,xAB,List.length_map,xEE,h]
theorem xWh (m : Mf) : L.pcall 11 [.sl false 1 m.cells] = some (.bool (xE6 m)) := by
  have h := yAE [m] (by simp)
  have e : xDe [m] = m.cells := by unfold xDe rows; simp
  rw [e] at h
  simpa using h
theorem xWi {m : Mf} (hI : In m) (h : xE6 m = false) : Sm m := by
  unfold xE6 at h
  simp only [Bool.or_eq_false_iff,decide_eq_false_iff_not,xIk,xIl,List.any_eq_false] at h
  obtain ⟨⟨h1,h2⟩,h3⟩ := h
  refine ⟨hI.i,hI.o,by omega,by omega,fun r hr => ?_,fun w hw => ?_,hI.b⟩
  · have := h2 r hr
    simp at this; omega
  · have := h3 w hw
    simp at this; omega
def stL (M : Ma) (s : Nat) (w : List Nat) : List Nat := s :: xNT M s w
theorem xUH (M : Ma) (s : Nat) (w : List Nat) : (stL M s w).length = w.length + 1 := by rw [stL,List.length_cons,xK6]
theorem xLc {M : Ma} : ∀ {w : List Nat} {s i : Nat},i < w.length → (stL M s w).getD (i + 1) 0 = nx M ((stL M s w).getD i 0) (w.getD i 0)
  | [],s,i,h => by simp at h
  | x :: t,s,0,h => rfl
  | x :: t,s,i + 1,h => by
    have := xLc (M := M) (w := t) (s := nx M s x) (i := i) (by simpa using h)
    exact this
theorem xUI {M : Ma} : ∀ {w : List Nat} {s i : Nat},i < w.length → (xF8 M s w).getD i 0 = em M ((stL M s w).getD i 0) (w.getD i 0)
  | [],s,i,h => by simp at h
  | x :: t,s,0,h => rfl
  | x :: t,s,i + 1,h => by
    have := xUI (M := M) (w := t) (s := nx M s x) (i := i) (by simpa using h)
    exact this
theorem xXt {M : Ma} (hV : Vm M) : ∀ {w : List Nat} {s : Nat},s < M.next.length → (∀ x ∈ w,x < two M.i) → ∀ i,i ≤ w.length → (stL M s w).getD i 0 < M.next.length
  | [],s,hs,hw,i,h => by
    simp only [List.length_nil,Nat.le_zero] at h
    subst h; exact hs
  | x :: t,s,hs,hw,0,h => hs
  | x :: t,s,hs,hw,i + 1,h => xXt hV (w := t) (hV.nx hs (hw x (by simp))) (fun y hy => hw y (by simp [hy])) i (by simpa using h)
theorem xNR (M : Ma) : ∀ (w : List Nat) (s k : Nat),xF8 M s (w.take k) = (xF8 M s w).take k
  | [],s,k => by simp [xF8]
  | x :: t,s,0 => by simp [xF8]
  | x :: t,s,k + 1 => by
    rw [List.take_succ_cons,xF8,xF8,List.take_succ_cons,xNR M t]
theorem xQz {M : Ma} {p q : List Nat} (hV : Vm M) (hL : Lo M.i p q) {n : Nat} : ∀ i,i ≤ n → (it (xBA M p q) (M.s,0) i).1 = (stL M M.s (xAV (xAJ p q) n)).getD i 0
  | 0,_ => rfl
  | i + 1,h => by
    have ih := xQz hV hL i (show i ≤ n by omega)
    have hc := xFx hV hL i
    rw [xLc (by rw [xBN]; omega),← ih]
    show nx M (it (xBA M p q) (M.s,0) i).1 (ltr p q (it (xBA M p q) (M.s,0) i).2) = _
    rw [hc.2,xK8 hL.q0]
    congr 1
    simp [xAV,show i < n by omega]
theorem xYW {M : Ma} {p q : List Nat} (hV : Vm M) (hL : Lo M.i p q) (i : Nat) : SL M p q i = lt2 M.i (xAJ p q i) (em M (it (xBA M p q) (M.s,0) i).1 (xAJ p q i)) := by
  have hc := xFx hV hL i
  show lt2 M.i (ltr p q (it (xBA M p q) (M.s,0) i).2) _ = _
  rw [hc.2,xK8 hL.q0]
theorem xFy {v : Nat} {p q : List Nat} (hL : Lo v p q) (i : Nat) : xAJ p q i < two v := by
  rw [← xK8 hL.q0]
  exact hL.ltr (xK7 hL.q0 i)
theorem xWj {a i o : Nat} (hi : i < two a) : lt2 a i o &&& (two a - 1) = i := by
  unfold lt2 two at *
  rw [Nat.and_two_pow_sub_one_eq_mod,Nat.add_mul_mod_self_right,Nat.mod_eq_of_lt hi]
theorem yBO {M : Ma} {p q : List Nat} (hV : Vm M) (hL : Lo M.i p q) (i : Nat) : SL M p q i < 64 := by
  rw [xYW hV hL]
  exact (xQx hV.io (xFy hL i) (hV.em (xFx hV hL i).1 (xFy hL i))).2.1
section
variable {M : Ma} {p q p' q' : List Nat} {n : Nat} {G : Heap} {zw za z1' z2' : Bool} {s4 : AV}
set_option maxRecDepth 100000 in
set_option maxHeartbeats 4000000 in
theorem xUJ (hV : Vm M) (hL : Lo M.i p q) (hn : n ≤ 64) (hp' : p'.length ≤ 1000000) (hq' : q'.length ≤ 1000000) (hz : z1' = true → p' = []) (hS : ∀ j,xAJ p' q' j = SL M p q j)
    (h3 : G[0]? = some (.cells false false M.cells)) (h11 : G[2]? = some (.cells false false [xA2 z1' p',xA2 z2' q'])) : ∀ e i,i + e = n →
    L.loop xLT xVj ⟨xLU (.ptr 0 0) s4 (.bool false) (.sl zw n (bs (xAV (xAJ p q) n))) (.sl za n (bs (xF8 M M.s (xAV (xAJ p q) n)))) (.sl false (n + 1) (xBV (stL M M.s (xAV (xAJ p q) n)))) (.ptr 2 0) (.int .i64 (i : Nat)),G⟩ =
      some (.exit 0,⟨xLU (.ptr 0 0) s4 (.bool false) (.sl zw n (bs (xAV (xAJ p q) n))) (.sl za n (bs (xF8 M M.s (xAV (xAJ p q) n)))) (.sl false (n + 1) (xBV (stL M M.s (xAV (xAJ p q) n)))) (.ptr 2 0) (.int .i64 (n : Nat)),G⟩) := by
  have hwl : (xAV (xAJ p q) n).length = n := xBN _ _
  have hal : (xF8 M M.s (xAV (xAJ p q) n)).length = n := by rw [xDW,hwl]
  have hsl : (stL M M.s (xAV (xAJ p q) n)).length = n + 1 := by rw [xUH,hwl]
  have hb : ∀ x ∈ xAV (xAJ p q) n,x < two M.i := by
    intro x hx
    obtain ⟨j,_,rfl⟩ := List.mem_map.1 hx
    exact xFy hL j
  have io := hV.io
  have h3' := h3
  unfold Ma.cells at h3'
  intro e
  induction e with
  | zero =>
    intro i h
    obtain rfl : i = n := by omega
    rw [xWt]
    simp (maxSteps := 30000000) (disch := first | assumption | omega | (simp only [WL,AV.isCell] <;> omega) | rfl | decide) only [↓reduceIte,WB,xAs,xAc,xAr,xAk,xAj,AV.cells,AV.isCell,xAb,xAd,xAe,WP,xAF,xAt,xBj,xBh,xBd,xAz,xAI,xAG,W2,xAf,xAg,xAh,Nat.reduceAdd,Nat.reduceSub,Nat.reduceLeDiff,Nat.reduceMul,Int.reduceAdd,Int.reduceSub,Int.reduceMul,Int.reduceLT,Int.reduceLE,Int.reduceEq,Int.reduceToNat,Int.reduceNeg,Nat.reduceEqDiff,Nat.reduceBEq,Nat.reduceLT,xAW,xAX,xDi,xEh,List.length_map,xOS,xR8]
  | succ e ih =>
    intro i h
    have hlt : (i : Int) < (n : Nat) := by omega
    have ih' := ih (i + 1) (by omega)
    have hs := xXt hV hV.s hb i (by rw [hwl]; omega)
    have e1 := xLc (M := M) (s := M.s) (w := xAV (xAJ p q) n) (i := i) (by rw [hwl]; omega)
    have e2 := xUI (M := M) (s := M.s) (w := xAV (xAJ p q) n) (i := i) (by rw [hwl]; omega)
    have ew : (xAV (xAJ p q) n).getD i 0 = xAJ p q i := by simp [xAV,show i < n by omega]
    have hx := xFy hL i
    have hat := yAn (xKZ (z2 := z2') hz hp' hq') (by omega) (show i < 1099511627776 by omega)
    rw [hS,xYW hV hL,xQz hV hL (n := n) i (by omega)] at hat
    rw [ew] at e1 e2
    have ho := hV.em hs hx
    have hlt2 := xQx io hx ho
    have hsh := xUz io hx ho
    have l1 := hV.nl hs
    have l2 := hV.wl' hs
    have l5 := hV.el
    generalize xAV (xAJ p q) n = w at *
    generalize hss : stL M M.s w = ss at *
    generalize hoo : xF8 M M.s w = oo at *
    unfold nx at e1
    unfold em at e2 ho hlt2 hsh hat
    rw [← e2] at ho hlt2 hsh hat
    generalize hX : xAJ p q i = x at *
    generalize hO : oo.getD i 0 = o at *
    generalize hSi : ss.getD i 0 = s at *
    generalize hSi2 : ss.getD (i + 1) 0 = s2 at *
    unfold lt2 at hat hlt2
    obtain ⟨t1,t2,t3⟩ := hlt2
    have hcast : (x : Int) + ((o * two M.i : Nat) : Int) = ((x + o * two M.i : Nat) : Int) := yBa _ _
    have hwr : IntKind.u8.wrap ((x + o * two M.i : Nat) : Int) = ((x + o * two M.i : Nat) : Int) := xYZ (by omega)
    have hs0 : ¬ ((s : Nat) : Int) < 0 := by omega
    have hsn : ¬ ((M.next.length : Nat) : Int) ≤ (s : Nat) := by omega
    have hi0 : ¬ ((M.i : Nat) : Int) < 0 := by omega
    have e1' : (M.next.getD s []).getD x 0 = s2 := e1.symm
    have e2' : (M.emit.getD s []).getD x 0 = o := e2.symm
    simp only [las] at hat
    rw [xWt]
    simp (maxSteps := 30000000) (disch := first | assumption | omega | (simp only [WL,AV.isCell] <;> omega) | rfl | decide) only [↓reduceIte,WB,xAs,xAc,xAr,xAk,xAj,AV.cells,AV.isCell,xAb,xAd,xAe,WP,xAF,xAt,xBj,xBh,xBd,xAz,xAI,xAG,W2,xAf,xAg,xAh,Nat.reduceAdd,Nat.reduceSub,Nat.reduceLeDiff,Nat.reduceMul,Int.reduceAdd,Int.reduceSub,Int.reduceMul,Int.reduceLT,Int.reduceLE,Int.reduceEq,Int.reduceToNat,Int.reduceNeg,Nat.reduceEqDiff,Nat.reduceBEq,Nat.reduceLT,xAW,xAX,xDi,xEh,List.length_map,xOS,xR8,hlt,h3',h11,hwl,hal,hsl,ew,hO,hSi,hSi2,hs0,hsn,hs,hx,l1,l2,l5,e1',e2',hat,hsh,hi0,hcast,hwr,ih']
end
end Go.Abs.Mealy
