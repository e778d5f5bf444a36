/- A heap that is not looked into: words for its reads and xA2; a map's entries that number their keys. -/
import Derived.Test.YtkpbekcgigigkaaDoorAMA
import Derived.Test.YtkpbekcgigigkaaDoorAbsWalk2
import Derived.Test.YtkpbekcgigigkaaDoorAbsBun
import Derived.Test.YtkpbekcgigigkaaDoorAMB
import Derived.Test.YtkpbekcgigigkaaDoorAbsIn
namespace Go.Abs.Mealy
open Go Go.Abs
set_option linter.unusedSimpArgs false
set_option linter.unusedVariables false
section
variable {G l : Heap} {b : Blk} {f : Blk → Blk} {j k n : Nat}
theorem xBV (h : k < G.length) : (G ++ l)[k]? = G[k]? := List.getElem?_append_left h
theorem xCE (h : G.length = n) : (G ++ l)[n + k]? = l[k]? := by subst h; exact xQN G l k
theorem xCH (h : G.length = n) : (G ++ l)[n]? = l[0]? := by subst h; exact xUx G l
theorem xDd (h : k < G.length) : (G ++ l).set k b = G.set k b ++ l := List.set_append_left k b h
theorem xDe (h : G.length = n) : (G ++ l).set (n + k) b = G ++ l.set k b := by subst h; exact xCG G l k b
theorem xDf (h : G.length = n) : (G ++ l).set n b = G ++ l.set 0 b := by subst h; exact xUy G l b
theorem xBI (h : j ≠ k) : (G.set j b)[k]? = G[k]? := List.getElem?_set_ne h
theorem xBP (h : k < G.length) : (G.set k b)[k]? = some b := List.getElem?_set_self h
theorem xDU {x : Blk} (h : G[k]? = some x) : k < G.length := (List.getElem?_eq_some_iff.1 h).1
end
def xXs (neg : Bool) (H : Heap) : AV → Option (AV × Heap)
  | .nilm => some (.bool (true != neg),H)
  | .mp _ => some (.bool (false != neg),H)
  | _ => none
theorem xE2 (neg : Bool) (H : Heap) : xXs neg H .nilm = some (.bool (!neg),H) := by cases neg <;> rfl
theorem xGl (neg : Bool) (H : Heap) (q : Nat) : xXs neg H (.mp q) = some (.bool neg,H) := by cases neg <;> rfl
theorem xKS (R : Rec) (F : List AV) (H : Heap) (neg : Bool) (x : Arg) : xAa R F H (.mnil neg x) = xXs neg H (opv F x) := rfl
theorem xGm (R : Rec) (F : List AV) (H : Heap) (ks : List Nat) (c : Bool) (z : AV) (x k : Arg) : xAF R F H (.mlook ks c z x k) = xDc H (xAa R F H (.mlook ks c z x k)) := xBL _ rfl
def Kt (B T : Nat) (G G' : Heap) : Prop := G.length ≤ G'.length ∧ ∀ b,b < B → b ≠ T → G'[b]? = G[b]?
theorem Kt.refl (B T : Nat) (G : Heap) : Kt B T G G := ⟨Nat.le_refl _,fun _ _ _ => rfl⟩
theorem Kt.trans {B T : Nat} {G G' G2 : Heap} (h : Kt B T G G') (h2 : Kt B T G' G2) : Kt B T G G2 := ⟨Nat.le_trans h.1 h2.1,fun b hb ht => (h2.2 b hb ht).trans (h.2 b hb ht)⟩
def ent {α : Type} (kv : α → AV) : List α → Nat → List (AV × AV)
  | [],_ => []
  | a :: t,i => (kv a,.int .i64 (i : Nat)) :: ent kv t (i + 1)
def xXt {α : Type} [DecidableEq α] (kv : α → AV) : Prop := ∀ a b,xBK (kv a) (kv b) = some (decide (a = b))
section
variable {α : Type} {kv : α → AV}
theorem xKT (kv : α → AV) : ∀ (ks : List α) (i : Nat),(ent kv ks i).length = ks.length
  | [],_ => rfl
  | a :: t,i => by rw [ent,List.length_cons,xKT kv t,List.length_cons]
theorem xPL (kv : α → AV) (a : α) : ∀ (ks : List α) (i : Nat),ent kv (ks ++ [a]) i = ent kv ks i ++ [(kv a,.int .i64 ((i + ks.length : Nat)))]
  | [],i => rfl
  | b :: t,i => by
    rw [List.cons_append,ent,xPL kv a t (i + 1),ent,List.cons_append,List.length_cons,show i + 1 + t.length = i + (t.length + 1) by omega]
variable [DecidableEq α]
def pos (a : α) : List α → Nat
  | [] => 0
  | b :: t => if a = b then 0 else pos a t + 1
theorem xKU (hk : xXt kv) (a : α) : ∀ (ks : List α) (i : Nat),xEC (kv a) (ent kv ks i) = some (if a ∈ ks then some (.int .i64 ((i + pos a ks : Nat))) else none)
  | [],i => by simp [ent,xEC]
  | b :: t,i => by
    have ih := xKU hk a t (i + 1)
    rw [ent,xEC,hk a b]
    unfold pos
    by_cases c : a = b
    · subst c
      rw [decide_eq_true rfl]
      simp
    · rw [decide_eq_false c,if_neg c]
      simp only [ih]
      by_cases m : a ∈ t
      · rw [if_pos m,if_pos (List.mem_cons_of_mem _ m),show i + 1 + pos a t = i + (pos a t + 1) by omega]
      · rw [if_neg m,if_neg (by simp [c,m])]
theorem xPM (hk : xXt kv) (a : α) (z : AV) : ∀ (ks : List α) (i j : Nat),a ∉ ks → xF8 (kv a) z (ent kv ks i) j = some (z,j + ks.length,ent kv ks i ++ [(kv a,z)])
  | [],i,j,_ => rfl
  | b :: t,i,j,h => by
    have ih := xPM hk a z t (i + 1) (j + 1) (fun m => h (List.mem_cons_of_mem _ m))
    have c : ¬ a = b := fun e => h (by simp [e])
    rw [ent,xF8,hk a b,decide_eq_false c]
    simp only [ih,Option.map_some,List.length_cons,List.cons_append,show j + 1 + t.length = j + (t.length + 1) by omega]
end
theorem xXu {α : Type} (kv : α → AV) (a : α) (z : AV) (ks : List α) : (ent kv ks 0 ++ [(kv a,z)]).set ks.length (kv a,.int .i64 (ks.length : Nat)) = ent kv (ks ++ [a]) 0 := by
  rw [xPL,← xKT kv ks 0,List.set_append_right _ _ (Nat.le_refl _),Nat.sub_self,Nat.zero_add]; rfl
theorem xY2 {α : Type} (kv : α → AV) (a : α) (z : AV) (ks : List α) : (ent kv ks 0 ++ [(kv a,z)])[ks.length]? = some (kv a,z) := by
  rw [← xKT kv ks 0,List.getElem?_append_right (Nat.le_refl _),Nat.sub_self]; rfl
def kv2 (p : Nat × Nat) : AV := .agg [.int .i64 (p.1 : Nat),.int .i64 (p.2 : Nat)]
theorem xTo : xXt kv2 := by
  intro a b
  obtain ⟨a1,a2⟩ := a
  obtain ⟨b1,b2⟩ := b
  have e : xBK (kv2 (a1,a2)) (kv2 (b1,b2)) = some (((a1 : Int) == (b1 : Int)) && (((a2 : Int) == (b2 : Int)) && true)) := rfl
  rw [e,Bool.and_true]
  congr 1
  by_cases c1 : a1 = b1
  · subst c1
    by_cases c2 : a2 = b2
    · subst c2; simp
    · rw [decide_eq_false (fun h => c2 (by injection h))]
      have : ¬ (a2 : Int) = b2 := by omega
      simp [this]
  · rw [decide_eq_false (fun h => c1 (by injection h))]
    have : ¬ (a1 : Int) = b1 := by omega
    simp [this]
theorem xPN : ∀ (n : Nat) (l : List Nat),l.Nodup → (∀ x ∈ l,x < n) → l.length ≤ n
  | 0,[],_,_ => Nat.le_refl _
  | 0,x :: t,_,h => absurd (h x (by simp)) (by omega)
  | n + 1,l,hd,h => by
    have h1 := xPN n (l.filter (fun x => decide (x ≠ n))) (hd.filter _) (fun x hx => by
      have := List.mem_filter.1 hx
      have h2 := h x this.1
      have h3 := of_decide_eq_true this.2
      omega)
    have h2 : ∀ l : List Nat,l.Nodup → l.length ≤ (l.filter (fun x => decide (x ≠ n))).length + 1 := by
      intro l hd
      induction l with
      | nil => simp
      | cons x t ih =>
        rw [List.nodup_cons] at hd
        by_cases e : x = n
        · subst e
          have : t.filter (fun y => decide (y ≠ x)) = t := List.filter_eq_self.2 fun y hy => by
            simp only [ne_eq,decide_eq_true_eq]
            rintro rfl; exact hd.1 hy
          rw [List.filter_cons_of_neg (by simp),this]; simp
        · have := ih hd.2
          simp [List.filter_cons,e] at this ⊢
          omega
    have := h2 l hd
    omega
theorem xTp {n m : Nat} {l : List (Nat × Nat)} (hd : l.Nodup) (h : ∀ x ∈ l,x.1 < n ∧ x.2 < m) : l.length ≤ n * m := by
  have h1 : (l.map fun x => x.1 * m + x.2).Nodup := by
    rw [List.nodup_iff_pairwise_ne,List.pairwise_map]
    refine List.Pairwise.imp_of_mem ?_ (List.nodup_iff_pairwise_ne.1 hd)
    intro a b ha hb hne e
    have h1 := h a ha
    have h2 := h b hb
    apply hne
    have e1 : a.1 = b.1 := by
      have h3 : (a.1 * m + a.2) / m = a.1 := by rw [Nat.mul_comm,Nat.mul_add_div (by omega),Nat.div_eq_of_lt h1.2]; omega
      have h4 : (b.1 * m + b.2) / m = b.1 := by rw [Nat.mul_comm,Nat.mul_add_div (by omega),Nat.div_eq_of_lt h2.2]; omega
      rw [← h3,← h4,e]
    have e2 : a.2 = b.2 := by rw [e1] at e; omega
    exact Prod.ext e1 e2
  have := xPN (n * m) _ h1 (by
    intro x hx
    obtain ⟨a,ha,rfl⟩ := List.mem_map.1 hx
    have h1 := h a ha
    have : (a.1 + 1) * m ≤ n * m := Nat.mul_le_mul_right m (by omega)
    rw [Nat.add_mul,Nat.one_mul] at this
    omega)
  rwa [List.length_map] at this
def TrI (B T : Nat) (G : Heap) (ks : List (Nat × Nat)) (w : List Nat) : Prop :=
  ∃ mv wv,G[T]? = some (.cells false false [mv,wv]) ∧
    ((mv = .nilm ∧ ks = []) ∨ ∃ q,mv = .mp q ∧ B ≤ q ∧ G[q]? = some (.mp (ent kv2 ks 0))) ∧
    ((wv = .sl true 0 [] ∧ w = []) ∨ ∃ p,wv = .own false p 0 w.length 1 ∧ B ≤ p ∧ G[p]? = some (.cells false false (bs w)))
section
variable {B T : Nat} {G : Heap} {ks : List (Nat × Nat)} {w : List Nat} {k : Nat × Nat}
end
def nx (M : Ma) (s i : Nat) : Nat := (M.next.getD s []).getD i 0
def em (M : Ma) (s i : Nat) : Nat := (M.emit.getD s []).getD i 0
theorem Vm.nl {M : Ma} (h : Vm M) {s : Nat} (hs : s < M.next.length) : (M.next.getD s []).length = two M.i := h.rl _ (xBw hs)
theorem Vm.wl' {M : Ma} (h : Vm M) {s : Nat} (hs : s < M.next.length) : (M.emit.getD s []).length = two M.i := h.wl _ (xBw (by rw [h.el]; exact hs))
theorem Vm.nx {M : Ma} (h : Vm M) {s i : Nat} (hs : s < M.next.length) (hi : i < two M.i) : nx M s i < M.next.length := h.rb _ (xBw hs) _ (xBw (by rw [h.nl hs]; exact hi))
theorem Vm.em {M : Ma} (h : Vm M) {s i : Nat} (hs : s < M.next.length) (hi : i < two M.i) : em M s i < two M.o := h.wb _ (xBw (by rw [h.el]; exact hs)) _ (xBw (by rw [h.wl' hs]; exact hi))
def nxo (N : Mo) (t o : Nat) : Nat := (N.next.getD t []).getD o 0
def gv (N : Mo) (t : Nat) : Nat := N.give.getD t 0
theorem Vo.nl {N : Mo} (h : Vo N) {s : Nat} (hs : s < N.next.length) : (N.next.getD s []).length = two N.o := h.rl _ (xBw hs)
theorem Vo.nx {N : Mo} (h : Vo N) {s i : Nat} (hs : s < N.next.length) (hi : i < two N.o) : nxo N s i < N.next.length := h.rb _ (xBw hs) _ (xBw (by rw [h.nl hs]; exact hi))
theorem Vo.gv {N : Mo} (h : Vo N) {s : Nat} (hs : s < N.next.length) : gv N s < two N.i := h.gb _ (xBw (by rw [h.gl]; exact hs))
theorem xTq {a b : Nat} (h : a ≤ b) : two a ≤ two b := Nat.pow_le_pow_right (by decide) h
def lt2 (a i o : Nat) : Nat := i + o * two a
def yAd (M : Ma) (N : Mo) (c : Nat × Nat) : Nat × Nat := (nx M c.1 (gv N c.2),nxo N c.2 (em M c.1 (gv N c.2)))
def yAX (M : Ma) (N : Mo) (c : Nat × Nat) : Nat := lt2 M.i (gv N c.2) (em M c.1 (gv N c.2))
def cfg (M : Ma) (N : Mo) : Nat → Nat × Nat
  | 0 => (M.s,N.s)
  | n + 1 => yAd M N (cfg M N n)
def lets (M : Ma) (N : Mo) (n : Nat) : List Nat := (List.range n).map fun k => yAX M N (cfg M N k)
theorem TrI.keep {B T : Nat} {G G' : Heap} {ks : List (Nat × Nat)} {w : List Nat} (h : TrI B T G ks w) (hk : ∀ b,b = T ∨ B ≤ b → b < G.length → G'[b]? = G[b]?) : TrI B T G' ks w := by
  obtain ⟨mv,wv,h1,h2,h3⟩ := h
  refine ⟨mv,wv,by rw [hk T (.inl rfl) (xDU h1)]; exact h1,?_,?_⟩
  · rcases h2 with h2 | ⟨q,e,hq,hm⟩
    · exact .inl h2
    · exact .inr ⟨q,e,hq,by rw [hk q (.inr hq) (xDU hm)]; exact hm⟩
  · rcases h3 with h3 | ⟨q,e,hq,hm⟩
    · exact .inl h3
    · exact .inr ⟨q,e,hq,by rw [hk q (.inr hq) (xDU hm)]; exact hm⟩
section
variable {M : Ma} {N : Mo} {G : Heap} {s t : Nat} {ks : List (Nat × Nat)} {w : List Nat}
end
section
variable {M : Ma} {N : Mo}
end
theorem xBW : (true != false) = true := rfl
theorem xBX : (false != false) = false := rfl
def xZu (c : Nat × Nat) : List AV := [.int .i64 (c.1 : Nat),.int .i64 (c.2 : Nat)]
def pcs (l : List (Nat × Nat)) : List AV := rows xZu l
theorem xAj (l : List (Nat × Nat)) : (pcs l).length = l.length * 2 := xH8 (enc := xZu) (k := 2) (fun _ => rfl) l
theorem xTr {l : List (Nat × Nat)} {i : Nat} (h : i < l.length) : List.take 2 (List.drop (i * 2) (pcs l)) = [.int .i64 ((l.getD i (0,0)).1 : Nat),.int .i64 ((l.getD i (0,0)).2 : Nat)] := by
  unfold pcs
  rw [xH9 (enc := xZu) (k := 2) (fun _ => rfl),List.drop_eq_getElem_cons h]
  have : l.getD i (0,0) = l[i] := by simp [List.getD,List.getElem?_eq_getElem h]
  rw [this]
  rfl
theorem xUX (l : List (Nat × Nat)) (c : Nat × Nat) : pcs l ++ [.int .i64 (c.1 : Nat),.int .i64 (c.2 : Nat)] = pcs (l ++ [c]) := xU6 xZu l [c]
section
variable {M : Ma} {N : Mo} {G : Heap} {s t : Nat} {ks : List (Nat × Nat)} {w : List Nat} {wv pv : AV}
end
section
variable {H : Heap} {fv : AV}
theorem yAe {z : Bool} {l : List Nat} {P : Nat → Bool} (hl : l.length < 9223372036854775807) (hb : ∀ x ∈ l,x < 256) (hf : ∀ s,s < 256 → L.icall fv [.int .u8 (s : Nat)] H = some (.bool (P s),H)) : ∀ e i,i + e = l.length →
    ∃ j : Nat,L.loop xLZ xUt ⟨xI3 (.sl z l.length (bs l)) fv (.int .i64 0) (.int .i64 (l.length : Nat)) (.int .i64 (i : Nat)),H⟩ =
      some (if (l.drop i).any P = true then (.ret,⟨xI3 (.sl z l.length (bs l)) fv (.int .i64 (j : Nat)) (.int .i64 (l.length : Nat)) (.int .i64 (j : Nat)),H⟩)
        else (.exit 0,⟨xI3 (.sl z l.length (bs l)) fv (.int .i64 0) (.int .i64 (l.length : Nat)) (.int .i64 (l.length : Nat)),H⟩)) := by
  intro e
  induction e with
  | zero =>
    intro i h
    obtain rfl : i = l.length := by omega
    refine ⟨0,?_⟩
    rw [if_neg (by rw [List.drop_length]; simp),xRK]
    simp (maxSteps := 30000000) (disch := first | assumption | omega | (simp only [WL,AV.isCell] <;> omega) | rfl | decide) only [↓reduceIte,WB,xAH,xAc,xAD,xAl,xAk,AV.cells,AV.isCell,xAb,xAg,xAh,WP,xAA,xAs,xBg,xBe,xBa,xAx,xAC,xAB,W2,xAd,xAe,xAi,Nat.reduceAdd,Nat.reduceSub,Nat.reduceLeDiff,Nat.reduceMul,Int.reduceAdd,Int.reduceSub,Int.reduceMul,Int.reduceLT,Int.reduceLE,Int.reduceEq,Int.reduceToNat,Int.reduceNeg,Nat.reduceEqDiff,Nat.reduceBEq,Nat.reduceLT,xBV,xCE,xCH,xDd,xDe,xDf,xBI,xBP,xBl,xBm,xEl,xGa,List.length_map,List.set_set,xI2,xI4]
  | succ e ih =>
    intro i h
    have hlt : (i : Int) < (l.length : Nat) := by omega
    obtain ⟨j,ih'⟩ := ih (i + 1) (by omega)
    have hp := hf (l.getD i 0) (hb _ (xBw (by omega)))
    rw [xBb (a := (0 : Nat)) (by omega : i < l.length),List.any_cons]
    cases c : P (l.getD i 0) with
    | true =>
      rw [c] at hp
      refine ⟨i,?_⟩
      rw [Bool.true_or,if_pos rfl,xRK]
      simp (maxSteps := 30000000) (disch := first | assumption | omega | (simp only [WL,AV.isCell] <;> omega) | rfl | decide) only [↓reduceIte,WB,xAH,xAc,xAD,xAl,xAk,AV.cells,AV.isCell,xAb,xAg,xAh,WP,xAA,xAs,xBg,xBe,xBa,xAx,xAC,xAB,W2,xAd,xAe,xAi,Nat.reduceAdd,Nat.reduceSub,Nat.reduceLeDiff,Nat.reduceMul,Int.reduceAdd,Int.reduceSub,Int.reduceMul,Int.reduceLT,Int.reduceLE,Int.reduceEq,Int.reduceToNat,Int.reduceNeg,Nat.reduceEqDiff,Nat.reduceBEq,Nat.reduceLT,xBV,xCE,xCH,xDd,xDe,xDf,xBI,xBP,xBl,xBm,xEl,xGa,List.length_map,List.set_set,xI2,xI4,hlt,hp]
    | false =>
      rw [c] at hp
      rw [Bool.false_or]
      refine ⟨j,?_⟩
      rw [xRK]
      by_cases e : (l.drop (i + 1)).any P = true
      · rw [if_pos e] at ih' ⊢
        simp (maxSteps := 30000000) (disch := first | assumption | omega | (simp only [WL,AV.isCell] <;> omega) | rfl | decide) only [↓reduceIte,WB,xAH,xAc,xAD,xAl,xAk,AV.cells,AV.isCell,xAb,xAg,xAh,WP,xAA,xAs,xBg,xBe,xBa,xAx,xAC,xAB,W2,xAd,xAe,xAi,Nat.reduceAdd,Nat.reduceSub,Nat.reduceLeDiff,Nat.reduceMul,Int.reduceAdd,Int.reduceSub,Int.reduceMul,Int.reduceLT,Int.reduceLE,Int.reduceEq,Int.reduceToNat,Int.reduceNeg,Nat.reduceEqDiff,Nat.reduceBEq,Nat.reduceLT,xBV,xCE,xCH,xDd,xDe,xDf,xBI,xBP,xBl,xBm,xEl,xGa,List.length_map,List.set_set,xI2,xI4,hlt,hp,ih']
      · rw [if_neg e] at ih' ⊢
        simp (maxSteps := 30000000) (disch := first | assumption | omega | (simp only [WL,AV.isCell] <;> omega) | rfl | decide) only [↓reduceIte,WB,xAH,xAc,xAD,xAl,xAk,AV.cells,AV.isCell,xAb,xAg,xAh,WP,xAA,xAs,xBg,xBe,xBa,xAx,xAC,xAB,W2,xAd,xAe,xAi,Nat.reduceAdd,Nat.reduceSub,Nat.reduceLeDiff,Nat.reduceMul,Int.reduceAdd,Int.reduceSub,Int.reduceMul,Int.reduceLT,Int.reduceLE,Int.reduceEq,Int.reduceToNat,Int.reduceNeg,Nat.reduceEqDiff,Nat.reduceBEq,Nat.reduceLT,xBV,xCE,xCH,xDd,xDe,xDf,xBI,xBP,xBl,xBm,xEl,xGa,List.length_map,List.set_set,xI2,xI4,hlt,hp,ih']
theorem xXv {z : Bool} {l : List Nat} {P : Nat → Bool} (hl : l.length < 9223372036854775807) (hb : ∀ x ∈ l,x < 256) (hf : ∀ s,s < 256 → L.icall fv [.int .u8 (s : Nat)] H = some (.bool (P s),H)) :
    ∃ j : Int,L.icall (.func 85 []) [.sl z l.length (bs l),fv] H = some (.int .i64 j,H) ∧ (if l.any P = true then 0 ≤ j else j < 0) := by
  obtain ⟨j,h⟩ := yAe (z := z) hl hb hf l.length 0 (by omega)
  simp only [Int.natCast_zero,List.drop_zero] at h
  by_cases c : l.any P = true
  · rw [if_pos c] at h
    refine ⟨j,?_,by rw [if_pos c]; omega⟩
    rw [yAx,a85]
    simp (maxSteps := 30000000) (disch := first | assumption | omega | (simp only [WL,AV.isCell] <;> omega) | rfl | decide) only [↓reduceIte,WB,xAH,xAc,xAD,xAl,xAk,AV.cells,AV.isCell,xAb,xAg,xAh,WP,xAA,xAs,xBg,xBe,xBa,xAx,xAC,xAB,W2,xAd,xAe,xAi,Nat.reduceAdd,Nat.reduceSub,Nat.reduceLeDiff,Nat.reduceMul,Int.reduceAdd,Int.reduceSub,Int.reduceMul,Int.reduceLT,Int.reduceLE,Int.reduceEq,Int.reduceToNat,Int.reduceNeg,Nat.reduceEqDiff,Nat.reduceBEq,Nat.reduceLT,xBV,xCE,xCH,xDd,xDe,xDf,xBI,xBP,xBl,xBm,xEl,xGa,List.length_map,List.set_set,xI4,h]
  · rw [if_neg c] at h
    refine ⟨-1,?_,by rw [if_neg c]; omega⟩
    rw [yAx,a85]
    simp (maxSteps := 30000000) (disch := first | assumption | omega | (simp only [WL,AV.isCell] <;> omega) | rfl | decide) only [↓reduceIte,WB,xAH,xAc,xAD,xAl,xAk,AV.cells,AV.isCell,xAb,xAg,xAh,WP,xAA,xAs,xBg,xBe,xBa,xAx,xAC,xAB,W2,xAd,xAe,xAi,Nat.reduceAdd,Nat.reduceSub,Nat.reduceLeDiff,Nat.reduceMul,Int.reduceAdd,Int.reduceSub,Int.reduceMul,Int.reduceLT,Int.reduceLE,Int.reduceEq,Int.reduceToNat,Int.reduceNeg,Nat.reduceEqDiff,Nat.reduceBEq,Nat.reduceLT,xBV,xCE,xCH,xDd,xDe,xDf,xBI,xBP,xBl,xBm,xEl,xGa,List.length_map,List.set_set,xI4,h]
theorem yAf {z : Bool} {l : List Nat} {P : Nat → Bool} (hl : l.length < 9223372036854775807) (hb : ∀ x ∈ l,x < 256) (hf : ∀ s,s < 256 → L.icall fv [.int .u8 (s : Nat)] H = some (.bool (P s),H)) :
    L.icall (.func 52 []) [.sl z l.length (bs l),fv] H = some (.bool (l.any P),H) := by
  obtain ⟨j,h,hj⟩ := xXv (z := z) hl hb hf
  rw [yAM,a52]
  cases c : l.any P with
  | true =>
    rw [if_pos c] at hj
    simp (maxSteps := 30000000) (disch := first | assumption | omega | (simp only [WL,AV.isCell] <;> omega) | rfl | decide) only [↓reduceIte,WB,xAH,xAc,xAD,xAl,xAk,AV.cells,AV.isCell,xAb,xAg,xAh,WP,xAA,xAs,xBg,xBe,xBa,xAx,xAC,xAB,W2,xAd,xAe,xAi,Nat.reduceAdd,Nat.reduceSub,Nat.reduceLeDiff,Nat.reduceMul,Int.reduceAdd,Int.reduceSub,Int.reduceMul,Int.reduceLT,Int.reduceLE,Int.reduceEq,Int.reduceToNat,Int.reduceNeg,Nat.reduceEqDiff,Nat.reduceBEq,Nat.reduceLT,xBV,xCE,xCH,xDd,xDe,xDf,xBI,xBP,xBl,xBm,xEl,xGa,List.length_map,List.set_set,h,hj]
  | false =>
    rw [if_neg (by simp [c])] at hj
    have hj' : ¬ 0 ≤ j := by omega
    simp (maxSteps := 30000000) (disch := first | assumption | omega | (simp only [WL,AV.isCell] <;> omega) | rfl | decide) only [↓reduceIte,WB,xAH,xAc,xAD,xAl,xAk,AV.cells,AV.isCell,xAb,xAg,xAh,WP,xAA,xAs,xBg,xBe,xBa,xAx,xAC,xAB,W2,xAd,xAe,xAi,Nat.reduceAdd,Nat.reduceSub,Nat.reduceLeDiff,Nat.reduceMul,Int.reduceAdd,Int.reduceSub,Int.reduceMul,Int.reduceLT,Int.reduceLE,Int.reduceEq,Int.reduceToNat,Int.reduceNeg,Nat.reduceEqDiff,Nat.reduceBEq,Nat.reduceLT,xBV,xCE,xCH,xDd,xDe,xDf,xBI,xBP,xBl,xBm,xEl,xGa,List.length_map,List.set_set,h,hj']
end
theorem yAg {M : Ma} (hV : Vm M) {b x : Nat} {H : Heap} (hx : x < 256) (h : H[b]? = some (.cells false false M.cells)) : L.icall (.func 53 [.ptr b 0]) [.int .u8 (x : Nat)] H = some (.bool (decide (two M.i ≤ x)),H) := by
  have io := hV.io
  have hsi := xK0 (v := M.i) (by omega)
  have hi0 : ¬ ((M.i : Nat) : Int) < 0 := by omega
  unfold Ma.cells at h
  rw [yAN,a53]
  by_cases c : two M.i ≤ x
  · have c' : ((two M.i : Nat) : Int) ≤ (x : Nat) := by omega
    rw [decide_eq_true c]
    simp (maxSteps := 30000000) (disch := first | assumption | omega | (simp only [WL,AV.isCell] <;> omega) | rfl | decide) only [↓reduceIte,WB,xAH,xAc,xAD,xAl,xAk,AV.cells,AV.isCell,xAb,xAg,xAh,WP,xAA,xAs,xBg,xBe,xBa,xAx,xAC,xAB,W2,xAd,xAe,xAi,Nat.reduceAdd,Nat.reduceSub,Nat.reduceLeDiff,Nat.reduceMul,Int.reduceAdd,Int.reduceSub,Int.reduceMul,Int.reduceLT,Int.reduceLE,Int.reduceEq,Int.reduceToNat,Int.reduceNeg,Nat.reduceEqDiff,Nat.reduceBEq,Nat.reduceLT,xBV,xCE,xCH,xDd,xDe,xDf,xBI,xBP,xBl,xBm,xEl,xGa,List.length_map,List.set_set,h,hsi,hi0,c']
  · have c' : ¬ ((two M.i : Nat) : Int) ≤ (x : Nat) := by omega
    rw [decide_eq_false c]
    simp (maxSteps := 30000000) (disch := first | assumption | omega | (simp only [WL,AV.isCell] <;> omega) | rfl | decide) only [↓reduceIte,WB,xAH,xAc,xAD,xAl,xAk,AV.cells,AV.isCell,xAb,xAg,xAh,WP,xAA,xAs,xBg,xBe,xBa,xAx,xAC,xAB,W2,xAd,xAe,xAi,Nat.reduceAdd,Nat.reduceSub,Nat.reduceLeDiff,Nat.reduceMul,Int.reduceAdd,Int.reduceSub,Int.reduceMul,Int.reduceLT,Int.reduceLE,Int.reduceEq,Int.reduceToNat,Int.reduceNeg,Nat.reduceEqDiff,Nat.reduceBEq,Nat.reduceLT,xBV,xCE,xCH,xDd,xDe,xDf,xBI,xBP,xBl,xBm,xEl,xGa,List.length_map,List.set_set,h,hsi,hi0,c']
def xBJ (M : Ma) : Nat → List Nat → List Nat
  | _,[] => []
  | s,x :: t => em M s x :: xBJ M (nx M s x) t
def xIg (M : Ma) : Nat → List Nat → List Nat
  | _,[] => []
  | s,x :: t => nx M s x :: xIg M (nx M s x) t
theorem xBr (M : Ma) : ∀ (w : List Nat) (s : Nat),(xBJ M s w).length = w.length
  | [],_ => rfl
  | x :: t,s => by rw [xBJ,List.length_cons,xBr M t,List.length_cons]
theorem xPO (M : Ma) : ∀ (w : List Nat) (s : Nat),(xIg M s w).length = w.length
  | [],_ => rfl
  | x :: t,s => by rw [xIg,List.length_cons,xPO M t,List.length_cons]
def Ow (G : Heap) (B : Nat) (ov sv : AV) (o st : List Nat) : Prop := ∃ q,sv = .own false q 0 st.length 1 ∧ B ≤ q ∧ G[q]? = some (.cells false false (xBY st)) ∧
  ((ov = .sl true 0 [] ∧ o = []) ∨ ∃ p,ov = .own false p 0 o.length 1 ∧ B ≤ p ∧ p ≠ q ∧ G[p]? = some (.cells false false (bs o)))
section
variable {M : Ma} {G : Heap} {ov sv : AV} {o st w : List Nat} {zw : Bool}
abbrev F16 (ov sv : AV) (s : Nat) (zw : Bool) (w : List Nat) (i : Nat) : List AV := xOp (.ptr 0 0) ov sv (.int .i64 (s : Nat)) (.sl zw w.length (bs w)) (.int .i64 (w.length : Nat)) (.int .i64 (i : Nat))
set_option maxHeartbeats 1000000 in
theorem xTs (hV : Vm M) (h0 : G[0]? = some (.cells false false M.cells)) (hO : Ow G 1 ov sv o st) {s i : Nat} (hs : s < M.next.length) (hi : i < w.length) (hx : w.getD i 0 < two M.i) (hw : w.length < 1000000) (ho : o.length < 1000000) (hst : st.length < 1000000) :
    ∃ G' ov' sv',L.loop xG2 xQE ⟨F16 ov sv s zw w i,G⟩ = L.loop xG2 xQE ⟨F16 ov' sv' (nx M s (w.getD i 0)) zw w (i + 1),G'⟩ ∧ G'[0]? = some (.cells false false M.cells) ∧ Ow G' 1 ov' sv' (o ++ [em M s (w.getD i 0)]) (st ++ [nx M s (w.getD i 0)]) := by
  obtain ⟨q,rfl,hq,hqs,h3⟩ := hO
  have hGq := xDU hqs
  have hlt : (i : Int) < (w.length : Nat) := by omega
  have l1 := hV.nl hs
  have l2 := hV.wl' hs
  have l5 := hV.el
  have g0 := h0
  unfold Ma.cells at g0
  unfold em nx
  generalize hX : w.getD i 0 = x at *
  rcases h3 with ⟨rfl,rfl⟩ | ⟨p,rfl,hp,hpq,hpo⟩
  · refine ⟨G.set q .dead ++ [.cells false false (bs [(M.emit.getD s []).getD x 0]),.cells false false (xBY (st ++ [(M.next.getD s []).getD x 0]))],.own false G.length 0 1 1,.own false (G.length + 1) 0 (st.length + 1) 1,?_,?_,?_⟩
    · rw [xLS]
      simp (maxSteps := 30000000) (disch := first | assumption | omega | (simp only [WL,AV.isCell] <;> omega) | rfl | decide) only [↓reduceIte,WB,xAH,xAc,xAD,xAl,xAk,AV.cells,AV.isCell,xAb,xAg,xAh,WP,xAA,xAs,xBg,xBe,xBa,xAx,xAC,xAB,W2,xAd,xAe,xAi,Nat.reduceAdd,Nat.reduceSub,Nat.reduceLeDiff,Nat.reduceMul,Int.reduceAdd,Int.reduceSub,Int.reduceMul,Int.reduceLT,Int.reduceLE,Int.reduceEq,Int.reduceToNat,Int.reduceNeg,Nat.reduceEqDiff,Nat.reduceBEq,Nat.reduceLT,xBV,xCE,xCH,xDd,xDe,xDf,xBI,xBP,xBl,xBm,xEl,xGa,List.length_map,List.set_set,xG1,xG3,hlt,g0,hqs,l1,l2,l5,hX,hs,hx]
      have e : xBY st ++ [AV.int .i64 (((M.next.getD s []).getD x 0 : Nat) : Int)] = xBY (st ++ [(M.next.getD s []).getD x 0]) := by simp [xBY]
      first | rfl | (rw [e]; rfl) | rw [e]
    · rw [xBV (by simp; omega),xBI (by omega),h0]
    · exact ⟨G.length + 1,by simp,by omega,by rw [xCE (by simp)]; rfl,.inr ⟨G.length,rfl,by omega,by omega,by rw [xCH (by simp)]; rfl⟩⟩
  · have hGp := xDU hpo
    refine ⟨(G.set p .dead).set q .dead ++ [.cells false false (bs (o ++ [(M.emit.getD s []).getD x 0])),.cells false false (xBY (st ++ [(M.next.getD s []).getD x 0]))],.own false G.length 0 (o.length + 1) 1,.own false (G.length + 1) 0 (st.length + 1) 1,?_,?_,?_⟩
    · rw [xLS]
      simp (maxSteps := 30000000) (disch := first | assumption | omega | (simp only [WL,AV.isCell] <;> omega) | rfl | decide) only [↓reduceIte,WB,xAH,xAc,xAD,xAl,xAk,AV.cells,AV.isCell,xAb,xAg,xAh,WP,xAA,xAs,xBg,xBe,xBa,xAx,xAC,xAB,W2,xAd,xAe,xAi,Nat.reduceAdd,Nat.reduceSub,Nat.reduceLeDiff,Nat.reduceMul,Int.reduceAdd,Int.reduceSub,Int.reduceMul,Int.reduceLT,Int.reduceLE,Int.reduceEq,Int.reduceToNat,Int.reduceNeg,Nat.reduceEqDiff,Nat.reduceBEq,Nat.reduceLT,xBV,xCE,xCH,xDd,xDe,xDf,xBI,xBP,xBl,xBm,xEl,xGa,List.length_map,List.set_set,xG1,xG3,hlt,g0,hqs,hpo,l1,l2,l5,hX,hs,hx]
      have e : xBY st ++ [AV.int .i64 (((M.next.getD s []).getD x 0 : Nat) : Int)] = xBY (st ++ [(M.next.getD s []).getD x 0]) := by simp [xBY]
      have e2 : bs o ++ [AV.int .u8 (((M.emit.getD s []).getD x 0 : Nat) : Int)] = bs (o ++ [(M.emit.getD s []).getD x 0]) := by simp [bs]
      first | rfl | rw [e,e2] | rw [e] | rw [e2]
    · rw [xBV (by simp; omega),xBI (by omega),xBI (by omega),h0]
    · exact ⟨G.length + 1,by simp,by omega,by rw [xCE (by simp)]; rfl,.inr ⟨G.length,by simp,by omega,by omega,by rw [xCH (by simp)]; rfl⟩⟩
theorem xXw (hV : Vm M) (hb : ∀ x ∈ w,x < two M.i) (hw : w.length < 1000) : ∀ e i s o st ov sv G,i + e = w.length → s < M.next.length → G[0]? = some (.cells false false M.cells) → Ow G 1 ov sv o st → o.length = i → st.length = i + 1 →
    ∃ G' ov' sv' s',L.loop xG2 xQE ⟨F16 ov sv s zw w i,G⟩ = some (.exit 1,⟨F16 ov' sv' s' zw w w.length,G'⟩) ∧ Ow G' 1 ov' sv' (o ++ xBJ M s (w.drop i)) (st ++ xIg M s (w.drop i)) := by
  intro e
  induction e with
  | zero =>
    intro i s o st ov sv G h hs h0 hO ho hst
    obtain rfl : i = w.length := by omega
    refine ⟨G,ov,sv,s,?_,by rw [List.drop_length]; simpa [xBJ,xIg] using hO⟩
    rw [xLS]
    simp (maxSteps := 30000000) (disch := first | assumption | omega | (simp only [WL,AV.isCell] <;> omega) | rfl | decide) only [↓reduceIte,WB,xAH,xAc,xAD,xAl,xAk,AV.cells,AV.isCell,xAb,xAg,xAh,WP,xAA,xAs,xBg,xBe,xBa,xAx,xAC,xAB,W2,xAd,xAe,xAi,Nat.reduceAdd,Nat.reduceSub,Nat.reduceLeDiff,Nat.reduceMul,Int.reduceAdd,Int.reduceSub,Int.reduceMul,Int.reduceLT,Int.reduceLE,Int.reduceEq,Int.reduceToNat,Int.reduceNeg,Nat.reduceEqDiff,Nat.reduceBEq,Nat.reduceLT,xBV,xCE,xCH,xDd,xDe,xDf,xBI,xBP,xBl,xBm,xEl,xGa,List.length_map,List.set_set,xG1,xG3]
    try rfl
  | succ e ih =>
    intro i s o st ov sv G h hs h0 hO ho hst
    have hx := hb _ (xBw (a := (0 : Nat)) (show i < w.length by omega))
    obtain ⟨G1,ov1,sv1,k1,k2,k3⟩ := xTs (zw := zw) hV h0 hO hs (show i < w.length by omega) hx (by omega) (by omega) (by omega)
    rw [k1]
    obtain ⟨G',ov',sv',s',j1,j2⟩ := ih (i + 1) _ _ _ ov1 sv1 G1 (by omega) (hV.nx hs hx) k2 k3 (by simp; omega) (by simp; omega)
    refine ⟨G',ov',sv',s',j1,?_⟩
    rw [xBb (a := (0 : Nat)) (show i < w.length by omega),xBJ,xIg]
    simpa using j2
end
def it {σ : Type} (f : σ → σ) (c : σ) : Nat → σ
  | 0 => c
  | n + 1 => f (it f c n)
def its {σ : Type} (f : σ → σ) (c : σ) (n : Nat) : List σ := (List.range n).map (it f c)
section
variable {σ : Type} {f : σ → σ} {g : σ → Nat} {c : σ}
variable [DecidableEq σ]
end
section
variable {M : Ma} {z1 z2 : Bool} {p q : List Nat} {G : Heap} {s n : Nat} {ks : List (Nat × Nat)} {w : List Nat}
end
section
variable {M : Ma} {z1 z2 : Bool} {p q : List Nat}
def xIm (v : Nat) (w : List Nat) : Int := if 64 < w.length then 4 else if xQO (two v) w = true then 1 else 0
theorem runE_zero {v : Nat} {w : List Nat} : xIm v w = 0 ↔ w.length ≤ 64 ∧ ∀ x ∈ w,x < two v := by
  unfold xIm
  by_cases c : 64 < w.length
  · rw [if_pos c]; exact ⟨fun h => by omega,fun h => by omega⟩
  · rw [if_neg c]
    by_cases c2 : xQO (two v) w = true
    · rw [if_pos c2]
      exact ⟨fun h => by omega,fun h => by rw [bigW_iff.2 h.2] at c2; cases c2⟩
    · rw [if_neg c2]
      exact ⟨fun _ => ⟨by omega,bigW_iff.1 (by simpa using c2)⟩,fun _ => rfl⟩
variable {w : List Nat} {zw : Bool}
theorem xY3 (hV : Vm M) (hb : ∀ x ∈ w,x < 256) (hw : w.length < 1099511627776) : L.icall (.func 52 []) [.sl zw w.length (bs w),.func 53 [.ptr 0 0]] [.cells false false M.cells] = some (.bool (xQO (two M.i) w),[.cells false false M.cells]) :=
  yAf (P := fun x => decide (two M.i ≤ x)) (by omega) hb (fun s hs => yAg hV hs rfl)
theorem xCu (hV : Vm M) (hb : ∀ x ∈ w,x < 256) (hw : w.length < 1099511627776) (h : xIm M.i w ≠ 0) : L.pcall 16 [M.av,xCD zw w] = some (.tup [.sl true 0 [],.sl true 0 [],.int .i64 (xIm M.i w)]) ∧ xCf L 16 [M.av,xCD zw w] = some (.tup [.sl true 0 [],.sl true 0 [],.int .i64 (xIm M.i w)],[]) := by
  have hc := xB8 hV
  have ha := xY3 (zw := zw) hV hb hw
  unfold xIm at h ⊢
  unfold Ma.av at hc ⊢
  unfold Ma.cells at hc ha ⊢
  by_cases c : 64 < w.length
  · rw [if_pos c]
    have c' : (64 : Int) < (w.length : Nat) := by omega
    constructor
    · rw [xZn,a16,xAo]
      simp (maxSteps := 30000000) (disch := first | assumption | omega | (simp only [WL,AV.isCell] <;> omega) | rfl | decide) only [↓reduceIte,WB,xAH,xAc,xAD,xAl,xAk,AV.cells,AV.isCell,xAb,xAg,xAh,WP,xAA,xAs,xBg,xBe,xBa,xAx,xAC,xAB,W2,xAd,xAe,xAi,Nat.reduceAdd,Nat.reduceSub,Nat.reduceLeDiff,Nat.reduceMul,Int.reduceAdd,Int.reduceSub,Int.reduceMul,Int.reduceLT,Int.reduceLE,Int.reduceEq,Int.reduceToNat,Int.reduceNeg,Nat.reduceEqDiff,Nat.reduceBEq,Nat.reduceLT,xBV,xCE,xCH,xDd,xDe,xDf,xBI,xBP,List.length_map,hc,c']
    · rw [xEX,xZo,a16,xDT]
      simp (maxSteps := 30000000) (disch := first | assumption | omega | (simp only [WL,AV.isCell] <;> omega) | rfl | decide) only [↓reduceIte,WB,xAH,xAc,xAD,xAl,xAk,AV.cells,AV.isCell,xAb,xAg,xAh,WP,xAA,xAs,xBg,xBe,xBa,xAx,xAC,xAB,W2,xAd,xAe,xAi,Nat.reduceAdd,Nat.reduceSub,Nat.reduceLeDiff,Nat.reduceMul,Int.reduceAdd,Int.reduceSub,Int.reduceMul,Int.reduceLT,Int.reduceLE,Int.reduceEq,Int.reduceToNat,Int.reduceNeg,Nat.reduceEqDiff,Nat.reduceBEq,Nat.reduceLT,xBV,xCE,xCH,xDd,xDe,xDf,xBI,xBP,List.length_map,hc,c']
  · rw [if_neg c] at h ⊢
    have c' : ¬ (64 : Int) < (w.length : Nat) := by omega
    by_cases c2 : xQO (two M.i) w = true
    · rw [if_pos c2]
      rw [c2] at ha
      constructor
      · rw [xZn,a16,xAo]
        simp (maxSteps := 30000000) (disch := first | assumption | omega | (simp only [WL,AV.isCell] <;> omega) | rfl | decide) only [↓reduceIte,WB,xAH,xAc,xAD,xAl,xAk,AV.cells,AV.isCell,xAb,xAg,xAh,WP,xAA,xAs,xBg,xBe,xBa,xAx,xAC,xAB,W2,xAd,xAe,xAi,Nat.reduceAdd,Nat.reduceSub,Nat.reduceLeDiff,Nat.reduceMul,Int.reduceAdd,Int.reduceSub,Int.reduceMul,Int.reduceLT,Int.reduceLE,Int.reduceEq,Int.reduceToNat,Int.reduceNeg,Nat.reduceEqDiff,Nat.reduceBEq,Nat.reduceLT,xBV,xCE,xCH,xDd,xDe,xDf,xBI,xBP,List.length_map,hc,c',ha]
      · rw [xEX,xZo,a16,xDT]
        simp (maxSteps := 30000000) (disch := first | assumption | omega | (simp only [WL,AV.isCell] <;> omega) | rfl | decide) only [↓reduceIte,WB,xAH,xAc,xAD,xAl,xAk,AV.cells,AV.isCell,xAb,xAg,xAh,WP,xAA,xAs,xBg,xBe,xBa,xAx,xAC,xAB,W2,xAd,xAe,xAi,Nat.reduceAdd,Nat.reduceSub,Nat.reduceLeDiff,Nat.reduceMul,Int.reduceAdd,Int.reduceSub,Int.reduceMul,Int.reduceLT,Int.reduceLE,Int.reduceEq,Int.reduceToNat,Int.reduceNeg,Nat.reduceEqDiff,Nat.reduceBEq,Nat.reduceLT,xBV,xCE,xCH,xDd,xDe,xDf,xBI,xBP,List.length_map,hc,c',ha]
    · rw [if_neg c2] at h; exact absurd rfl h
theorem xCv (hV : Vm M) (h : xIm M.i w = 0) : (∃ z,L.pcall 16 [M.av,xCD zw w] = some (.tup [.sl z w.length (bs (xBJ M M.s w)),.sl false (w.length + 1) (xBY (M.s :: xIg M M.s w)),.int .i64 0])) ∧
    ((w = [] ∧ xCf L 16 [M.av,xCD zw w] = some (.tup [.sl true 0 [],.own false 0 0 1 1,.int .i64 0],[.cells false false (xBY [M.s])])) ∨
      xCf L 16 [M.av,xCD zw w] = some (.tup [.own false 0 0 w.length 1,.own false 1 0 (w.length + 1) 1,.int .i64 0],[.cells false false (bs (xBJ M M.s w)),.cells false false (xBY (M.s :: xIg M M.s w))])) := by
  have hz := runE_zero.1 h
  have io := hV.io
  have hb6 := (xH4 (show M.i ≤ 6 by omega)).1
  have hb : ∀ x ∈ w,x < 256 := fun x hx => by have := hz.2 x hx; omega
  have hc := xB8 hV
  have ha := xY3 (zw := zw) hV hb (by omega)
  rw [bigW_iff.2 hz.2] at ha
  have c' : ¬ (64 : Int) < (w.length : Nat) := by omega
  by_cases hw0 : w = []
  · subst hw0
    unfold Ma.av at hc ⊢
    unfold Ma.cells at hc ha ⊢
    have e1 : M.s :: xIg M M.s [] = [M.s] := rfl
    have e2 : xBJ M M.s [] = [] := rfl
    rw [e1,e2]
    simp only [xCD,List.length_nil,bs,List.map_nil] at ha ⊢
    refine ⟨⟨true,?_⟩,.inl ⟨trivial,?_⟩⟩
    · rw [xZn,a16,xAo]
      simp (maxSteps := 30000000) (disch := first | assumption | omega | (simp only [WL,AV.isCell] <;> omega) | rfl | decide) only [↓reduceIte,WB,xAH,xAc,xAD,xAl,xAk,AV.cells,AV.isCell,xAb,xAg,xAh,WP,xAA,xAs,xBg,xBe,xBa,xAx,xAC,xAB,W2,xAd,xAe,xAi,Nat.reduceAdd,Nat.reduceSub,Nat.reduceLeDiff,Nat.reduceMul,Int.reduceAdd,Int.reduceSub,Int.reduceMul,Int.reduceLT,Int.reduceLE,Int.reduceEq,Int.reduceToNat,Int.reduceNeg,Nat.reduceEqDiff,Nat.reduceBEq,Nat.reduceLT,xBV,xCE,xCH,xDd,xDe,xDf,xBI,xBP,List.length_map,xG3,xLS,xG1,hc,ha]
      try rfl
    · rw [xEX,xZo,a16,xDT]
      simp (maxSteps := 30000000) (disch := first | assumption | omega | (simp only [WL,AV.isCell] <;> omega) | rfl | decide) only [↓reduceIte,WB,xAH,xAc,xAD,xAl,xAk,AV.cells,AV.isCell,xAb,xAg,xAh,WP,xAA,xAs,xBg,xBe,xBa,xAx,xAC,xAB,W2,xAd,xAe,xAi,Nat.reduceAdd,Nat.reduceSub,Nat.reduceLeDiff,Nat.reduceMul,Int.reduceAdd,Int.reduceSub,Int.reduceMul,Int.reduceLT,Int.reduceLE,Int.reduceEq,Int.reduceToNat,Int.reduceNeg,Nat.reduceEqDiff,Nat.reduceBEq,Nat.reduceLT,xBV,xCE,xCH,xDd,xDe,xDf,xBI,xBP,List.length_map,xG3,xLS,xG1,hc,ha]
      try rfl
  obtain ⟨G',ov',sv',s',j1,j2⟩ := xXw (zw := zw) hV hz.2 (by omega) w.length 0 M.s [] [M.s] (.sl true 0 []) (.own false 1 0 1 1) [.cells false false M.cells,.cells false false (xBY [M.s])] (by omega) hV.s rfl ⟨1,rfl,by omega,rfl,.inl ⟨rfl,rfl⟩⟩ rfl rfl
  rw [List.drop_zero,List.nil_append] at j2
  obtain ⟨b,rfl,hb1,hbs,h3⟩ := j2
  have lo := xBr M w M.s
  have lt := xPO M w M.s
  have ls : ([M.s] ++ xIg M M.s w).length = w.length + 1 := by simp [lt]
  unfold F16 at j1
  simp only [Int.natCast_zero] at j1
  unfold Ma.av at hc ⊢
  unfold Ma.cells at hc ha j1 ⊢
  rw [ls] at j1
  have his : xBY [M.s] = [.int .i64 (M.s : Nat)] := rfl
  rw [his] at j1
  rw [List.singleton_append] at hbs
  have lss : (M.s :: xIg M M.s w).length = w.length + 1 := by rw [List.length_cons,lt]
  generalize M.s :: xIg M M.s w = st at *
  rcases h3 with ⟨rfl,h4⟩ | ⟨a,rfl,ha1,hab,has⟩
  · rw [h4] at lo; exact absurd (List.length_eq_zero_iff.1 lo.symm) hw0
  · have hab' : (a == b) = false := by simpa using hab
    rw [lo] at j1
    refine ⟨⟨false,?_⟩,.inr ?_⟩
    · rw [xZn,a16,xAo]
      simp (maxSteps := 30000000) (disch := first | assumption | omega | (simp only [WL,AV.isCell] <;> omega) | rfl | decide) only [↓reduceIte,WB,xAH,xAc,xAD,xAl,xAk,AV.cells,AV.isCell,xAb,xAg,xAh,WP,xAA,xAs,xBg,xBe,xBa,xAx,xAC,xAB,W2,xAd,xAe,xAi,Nat.reduceAdd,Nat.reduceSub,Nat.reduceLeDiff,Nat.reduceMul,Int.reduceAdd,Int.reduceSub,Int.reduceMul,Int.reduceLT,Int.reduceLE,Int.reduceEq,Int.reduceToNat,Int.reduceNeg,Nat.reduceEqDiff,Nat.reduceBEq,Nat.reduceLT,xBV,xCE,xCH,xDd,xDe,xDf,xBI,xBP,List.length_map,xG3,hc,c',ha,j1,hbs,has,lo,lss]
      rw [List.take_of_length_le (by omega),List.take_of_length_le (by omega)]
    · rw [xEX,xZo,a16,xDT]
      simp (maxSteps := 30000000) (disch := first | assumption | omega | (simp only [WL,AV.isCell] <;> omega) | rfl | decide) only [↓reduceIte,WB,xAH,xAc,xAD,xAl,xAk,AV.cells,AV.isCell,xAb,xAg,xAh,WP,xAA,xAs,xBg,xBe,xBa,xAx,xAC,xAB,W2,xAd,xAe,xAi,Nat.reduceAdd,Nat.reduceSub,Nat.reduceLeDiff,Nat.reduceMul,Int.reduceAdd,Int.reduceSub,Int.reduceMul,Int.reduceLT,Int.reduceLE,Int.reduceEq,Int.reduceToNat,Int.reduceNeg,Nat.reduceEqDiff,Nat.reduceBEq,Nat.reduceLT,xBV,xCE,xCH,xDd,xDe,xDf,xBI,xBP,List.length_map,xG3,hc,c',ha,j1,hbs,has,hab',lo,lss]
end
abbrev TMa : TS := ⟨true,[.int .i64,.int .i64,.int .i64,.sl [.sl [.int .i64]],.sl [.sl [.int .u8]]]⟩
abbrev xY4 : TS := ⟨false,[.sl [.int .u8]]⟩
theorem xE3 {α : Type} {f : α → AV} {P : α → Prop} : ∀ (cs : List AV),(∀ x ∈ cs,∃ a,x = f a ∧ P a) → ∃ l : List α,cs = l.map f ∧ ∀ a ∈ l,P a
  | [],_ => ⟨[],rfl,by simp⟩
  | c :: cs,h => by
    obtain ⟨a,rfl,ha⟩ := h c (by simp)
    obtain ⟨l,rfl,hl⟩ := xE3 cs (fun x hx => h x (by simp [hx]))
    exact ⟨a :: l,rfl,by simpa using ⟨ha,hl⟩⟩
theorem xY5 {a : AV} (h : Fit (.sl [.int .i64]) a) : ∃ r,a = rwV r ∧ (r.z = true → r.l = []) := by
  obtain ⟨z,cs,rfl,hz,_,hf⟩ := xKX h
  obtain ⟨l,rfl,_⟩ := xE3 (f := fun n : Int => AV.int .i64 n) (P := fun _ => True) cs (fun x hx => by obtain ⟨n,rfl,_⟩ := xKW (hf x hx); exact ⟨n,rfl,trivial⟩)
  exact ⟨⟨z,l⟩,by simp [rwV,xCI],by simpa using hz⟩
theorem xWl {a : AV} (h : Fit (.sl [.int .u8]) a) : ∃ w : Wd,a = wdV w ∧ (w.z = true → w.l = []) ∧ ∀ x ∈ w.l,x < 256 := by
  obtain ⟨z,cs,rfl,hz,_,hf⟩ := xKX h
  obtain ⟨l,rfl,hl⟩ := xE3 (f := fun n : Nat => AV.int .u8 n) (P := fun n => n < 256) cs (fun x hx => by obtain ⟨n,rfl,h⟩ := xY9 (hf x hx); exact ⟨n,rfl,h⟩)
  exact ⟨⟨z,l⟩,by simp [wdV,bs],by simpa using hz,hl⟩
structure In (m : Mf) : Prop where
  i : -9223372036854775808 ≤ m.i ∧ m.i < 9223372036854775808
  o : -9223372036854775808 ≤ m.o ∧ m.o < 9223372036854775808
  s : -9223372036854775808 ≤ m.s ∧ m.s < 9223372036854775808
  cn : Cn m
  nl : m.next.length ≤ 9223372036854775807
  b : ∀ w ∈ m.emit,∀ x ∈ w.l,x < 256
theorem xWm {a : AV} (h : xQQ TMa a) : ∃ m : Mf,a = m.av ∧ In m := by
  obtain ⟨cs,rfl,h'⟩ := xTt h
  obtain ⟨a1,cs,rfl,h1,h'⟩ := xCk h'
  obtain ⟨a2,cs,rfl,h2,h'⟩ := xCk h'
  obtain ⟨a3,cs,rfl,h3,h'⟩ := xCk h'
  obtain ⟨a4,cs,rfl,h4,h'⟩ := xCk h'
  obtain ⟨a5,cs,rfl,h5,h'⟩ := xCk h'
  obtain rfl := xQM h'
  obtain ⟨i,rfl,b1⟩ := xKW h1
  obtain ⟨o,rfl,b2⟩ := xKW h2
  obtain ⟨s,rfl,b3⟩ := xKW h3
  obtain ⟨z,c4,rfl,z4,q4,hf⟩ := xKX h4
  obtain ⟨nx,rfl,p4⟩ := xE3 (f := rwV) (P := fun r => r.z = true → r.l = []) c4 (fun x hx => xY5 (hf x hx))
  obtain ⟨ze,c5,rfl,z5,_,hf5⟩ := xKX h5
  obtain ⟨emi,rfl,p5⟩ := xE3 (f := wdV) (P := fun r => (r.z = true → r.l = []) ∧ ∀ x ∈ r.l,x < 256) c5 (fun x hx => xWl (hf5 x hx))
  exact ⟨⟨i,o,s,z,nx,ze,emi⟩,by simp [Mf.av,Mf.cells],⟨⟨b1.1,Int.lt_of_le_of_lt b1.2 (by decide)⟩,⟨b2.1,Int.lt_of_le_of_lt b2.2 (by decide)⟩,⟨b3.1,Int.lt_of_le_of_lt b3.2 (by decide)⟩,⟨by simpa using z4,by simpa using z5,p4,fun w hw => (p5 w hw).1⟩,by simpa [maxLen] using q4,fun w hw => (p5 w hw).2⟩⟩
def xIn (l : List Rw) : Bool := l.any fun r => decide (66 < r.l.length)
def xIo (l : List Wd) : Bool := l.any fun r => decide (66 < r.l.length)
def xD3 (m : Mf) : Bool := decide (14 < m.next.length ∨ 16 < m.emit.length) || xIn m.next || xIo m.emit
section
variable {cs : List AV} {nm k : Nat} {m : Mf} {s3 s4 s5 : AV} {H : Heap}
theorem xY6 (hk : k < nm) (hcs : cs.length = nm * 5) (h3 : List.take 1 (List.drop (k * 5 + 3) cs) = [.sl m.z m.next.length (m.next.map rwV)]) (hn : m.next.length ≤ 14) (hnm : nm < 100) : ∀ e i,i + e = m.next.length →
    ∃ j : Nat,L.loop xLP xUn ⟨xIL (.sl false nm cs) (.bool false) (.int .i64 (k : Nat)) (.int .i64 (i : Nat)),H⟩ =
      some (if xIn (m.next.drop i) = true then (.ret,⟨xIL (.sl false nm cs) (.bool true) (.int .i64 (k : Nat)) (.int .i64 (j : Nat)),H⟩)
        else (.exit 2,⟨xIL (.sl false nm cs) (.bool false) (.int .i64 (k : Nat)) (.int .i64 (m.next.length : Nat)),H⟩)) := by
  intro e
  induction e with
  | zero =>
    intro i h
    obtain rfl : i = m.next.length := by omega
    refine ⟨0,?_⟩
    rw [if_neg (by rw [List.drop_length]; simp [xIn]),xRz]
    simp (maxSteps := 30000000) (disch := first | assumption | omega | (simp only [WL,AV.isCell] <;> omega) | rfl | decide) only [↓reduceIte,WB,xAH,xAc,xAD,xAl,xAk,AV.cells,AV.isCell,xAb,xAg,xAh,W2,xAd,xAe,xAi,Nat.reduceAdd,Nat.reduceSub,Nat.reduceLeDiff,Nat.reduceMul,Int.reduceAdd,Int.reduceSub,Int.reduceMul,Int.reduceLT,Int.reduceLE,Int.reduceEq,Int.reduceToNat,Int.reduceNeg,Nat.reduceEqDiff,Nat.reduceBEq,Nat.reduceLT,xAR,xAS,List.length_map,xIK,xFL,h3]
  | succ e ih =>
    intro i h
    have hlt : (i : Int) < (m.next.length : Nat) := by omega
    obtain ⟨j,ih'⟩ := ih (i + 1) (by omega)
    have hrv : rwV (m.next.getD i r0) = .sl (m.next.getD i r0).z (m.next.getD i r0).l.length (xCI (m.next.getD i r0).l) := rfl
    rw [xBb (a := r0) (by omega : i < m.next.length)]
    have et : ∀ t,xIn (m.next.getD i r0 :: t) = (decide (66 < (m.next.getD i r0).l.length) || xIn t) := fun _ => rfl
    rw [et]
    by_cases c : 66 < (m.next.getD i r0).l.length
    · have c' : (66 : Int) < ((m.next.getD i r0).l.length : Nat) := by omega
      refine ⟨i,?_⟩
      rw [decide_eq_true c,Bool.true_or,if_pos rfl,xRz]
      simp (maxSteps := 30000000) (disch := first | assumption | omega | (simp only [WL,AV.isCell] <;> omega) | rfl | decide) only [↓reduceIte,WB,xAH,xAc,xAD,xAl,xAk,AV.cells,AV.isCell,xAb,xAg,xAh,W2,xAd,xAe,xAi,Nat.reduceAdd,Nat.reduceSub,Nat.reduceLeDiff,Nat.reduceMul,Int.reduceAdd,Int.reduceSub,Int.reduceMul,Int.reduceLT,Int.reduceLE,Int.reduceEq,Int.reduceToNat,Int.reduceNeg,Nat.reduceEqDiff,Nat.reduceBEq,Nat.reduceLT,xAR,xAS,List.length_map,xIK,xFL,h3,hlt,hrv,c']
    · have c' : ¬ (66 : Int) < ((m.next.getD i r0).l.length : Nat) := by omega
      refine ⟨j,?_⟩
      rw [decide_eq_false c,Bool.false_or,xRz]
      by_cases e : xIn (m.next.drop (i + 1)) = true
      · rw [if_pos e] at ih' ⊢
        simp (maxSteps := 30000000) (disch := first | assumption | omega | (simp only [WL,AV.isCell] <;> omega) | rfl | decide) only [↓reduceIte,WB,xAH,xAc,xAD,xAl,xAk,AV.cells,AV.isCell,xAb,xAg,xAh,W2,xAd,xAe,xAi,Nat.reduceAdd,Nat.reduceSub,Nat.reduceLeDiff,Nat.reduceMul,Int.reduceAdd,Int.reduceSub,Int.reduceMul,Int.reduceLT,Int.reduceLE,Int.reduceEq,Int.reduceToNat,Int.reduceNeg,Nat.reduceEqDiff,Nat.reduceBEq,Nat.reduceLT,xAR,xAS,List.length_map,xIK,xFL,h3,hlt,hrv,c',ih']
      · rw [if_neg e] at ih' ⊢
        simp (maxSteps := 30000000) (disch := first | assumption | omega | (simp only [WL,AV.isCell] <;> omega) | rfl | decide) only [↓reduceIte,WB,xAH,xAc,xAD,xAl,xAk,AV.cells,AV.isCell,xAb,xAg,xAh,W2,xAd,xAe,xAi,Nat.reduceAdd,Nat.reduceSub,Nat.reduceLeDiff,Nat.reduceMul,Int.reduceAdd,Int.reduceSub,Int.reduceMul,Int.reduceLT,Int.reduceLE,Int.reduceEq,Int.reduceToNat,Int.reduceNeg,Nat.reduceEqDiff,Nat.reduceBEq,Nat.reduceLT,xAR,xAS,List.length_map,xIK,xFL,h3,hlt,hrv,c',ih']
theorem xY7 (hk : k < nm) (hcs : cs.length = nm * 5) (h3 : List.take 1 (List.drop (k * 5 + 4) cs) = [.sl m.ze m.emit.length (m.emit.map wdV)]) (hn : m.emit.length ≤ 16) (hnm : nm < 100) : ∀ e i,i + e = m.emit.length →
    ∃ j : Nat,L.loop xLQ xUo ⟨xIN (.sl false nm cs) (.bool false) (.int .i64 (k : Nat)) (.int .i64 (i : Nat)),H⟩ =
      some (if xIo (m.emit.drop i) = true then (.ret,⟨xIN (.sl false nm cs) (.bool true) (.int .i64 (k : Nat)) (.int .i64 (j : Nat)),H⟩)
        else (.exit 4,⟨xIN (.sl false nm cs) (.bool false) (.int .i64 (k : Nat)) (.int .i64 (m.emit.length : Nat)),H⟩)) := by
  intro e
  induction e with
  | zero =>
    intro i h
    obtain rfl : i = m.emit.length := by omega
    refine ⟨0,?_⟩
    rw [if_neg (by rw [List.drop_length]; simp [xIo]),xRA]
    simp (maxSteps := 30000000) (disch := first | assumption | omega | (simp only [WL,AV.isCell] <;> omega) | rfl | decide) only [↓reduceIte,WB,xAH,xAc,xAD,xAl,xAk,AV.cells,AV.isCell,xAb,xAg,xAh,W2,xAd,xAe,xAi,Nat.reduceAdd,Nat.reduceSub,Nat.reduceLeDiff,Nat.reduceMul,Int.reduceAdd,Int.reduceSub,Int.reduceMul,Int.reduceLT,Int.reduceLE,Int.reduceEq,Int.reduceToNat,Int.reduceNeg,Nat.reduceEqDiff,Nat.reduceBEq,Nat.reduceLT,xAR,xAS,List.length_map,xIM,xG0,h3]
  | succ e ih =>
    intro i h
    have hlt : (i : Int) < (m.emit.length : Nat) := by omega
    obtain ⟨j,ih'⟩ := ih (i + 1) (by omega)
    have hrv : wdV (m.emit.getD i w0) = .sl (m.emit.getD i w0).z (m.emit.getD i w0).l.length (bs (m.emit.getD i w0).l) := rfl
    rw [xBb (a := w0) (by omega : i < m.emit.length)]
    have et : ∀ t,xIo (m.emit.getD i w0 :: t) = (decide (66 < (m.emit.getD i w0).l.length) || xIo t) := fun _ => rfl
    rw [et]
    by_cases c : 66 < (m.emit.getD i w0).l.length
    · have c' : (66 : Int) < ((m.emit.getD i w0).l.length : Nat) := by omega
      refine ⟨i,?_⟩
      rw [decide_eq_true c,Bool.true_or,if_pos rfl,xRA]
      simp (maxSteps := 30000000) (disch := first | assumption | omega | (simp only [WL,AV.isCell] <;> omega) | rfl | decide) only [↓reduceIte,WB,xAH,xAc,xAD,xAl,xAk,AV.cells,AV.isCell,xAb,xAg,xAh,W2,xAd,xAe,xAi,Nat.reduceAdd,Nat.reduceSub,Nat.reduceLeDiff,Nat.reduceMul,Int.reduceAdd,Int.reduceSub,Int.reduceMul,Int.reduceLT,Int.reduceLE,Int.reduceEq,Int.reduceToNat,Int.reduceNeg,Nat.reduceEqDiff,Nat.reduceBEq,Nat.reduceLT,xAR,xAS,List.length_map,xIM,xG0,h3,hlt,hrv,c']
    · have c' : ¬ (66 : Int) < ((m.emit.getD i w0).l.length : Nat) := by omega
      refine ⟨j,?_⟩
      rw [decide_eq_false c,Bool.false_or,xRA]
      by_cases e : xIo (m.emit.drop (i + 1)) = true
      · rw [if_pos e] at ih' ⊢
        simp (maxSteps := 30000000) (disch := first | assumption | omega | (simp only [WL,AV.isCell] <;> omega) | rfl | decide) only [↓reduceIte,WB,xAH,xAc,xAD,xAl,xAk,AV.cells,AV.isCell,xAb,xAg,xAh,W2,xAd,xAe,xAi,Nat.reduceAdd,Nat.reduceSub,Nat.reduceLeDiff,Nat.reduceMul,Int.reduceAdd,Int.reduceSub,Int.reduceMul,Int.reduceLT,Int.reduceLE,Int.reduceEq,Int.reduceToNat,Int.reduceNeg,Nat.reduceEqDiff,Nat.reduceBEq,Nat.reduceLT,xAR,xAS,List.length_map,xIM,xG0,h3,hlt,hrv,c',ih']
      · rw [if_neg e] at ih' ⊢
        simp (maxSteps := 30000000) (disch := first | assumption | omega | (simp only [WL,AV.isCell] <;> omega) | rfl | decide) only [↓reduceIte,WB,xAH,xAc,xAD,xAl,xAk,AV.cells,AV.isCell,xAb,xAg,xAh,W2,xAd,xAe,xAi,Nat.reduceAdd,Nat.reduceSub,Nat.reduceLeDiff,Nat.reduceMul,Int.reduceAdd,Int.reduceSub,Int.reduceMul,Int.reduceLT,Int.reduceLE,Int.reduceEq,Int.reduceToNat,Int.reduceNeg,Nat.reduceEqDiff,Nat.reduceBEq,Nat.reduceLT,xAR,xAS,List.length_map,xIM,xG0,h3,hlt,hrv,c',ih']
end
def xDg (ms : List Mf) : List AV := rows Mf.cells ms
theorem xKV (l : List Mf) : (xDg l).length = l.length * 5 := xH8 (enc := Mf.cells) (k := 5) (fun _ => rfl) l
def m0 : Mf := ⟨0,0,0,true,[],true,[]⟩
theorem xNk {l : List Mf} {i : Nat} (h : i < l.length) : List.drop (i * 5) (xDg l) = (l.getD i m0).cells ++ xDg (l.drop (i + 1)) := by
  unfold xDg
  rw [xH9 (enc := Mf.cells) (k := 5) (fun _ => rfl),xBb (a := m0) h]
  rfl
theorem xUY {l : List Mf} {i : Nat} (h : i < l.length) : List.take 1 (List.drop (i * 5 + 3) (xDg l)) = [.sl (l.getD i m0).z (l.getD i m0).next.length ((l.getD i m0).next.map rwV)] := by
  rw [← List.drop_drop,xNk h]; rfl
theorem xUZ {l : List Mf} {i : Nat} (h : i < l.length) : List.take 1 (List.drop (i * 5 + 4) (xDg l)) = [.sl (l.getD i m0).ze (l.getD i m0).emit.length ((l.getD i m0).emit.map wdV)] := by
  rw [← List.drop_drop,xNk h]; rfl
theorem xXx {ms : List Mf} {H : Heap} (hm : ms.length < 100) : ∀ e i,i + e = ms.length →
    ∃ j : Nat,L.loop xLR xUp ⟨xIO (.sl false ms.length (xDg ms)) (.bool false) (.int .i64 (i : Nat)),H⟩ =
      some (if (ms.drop i).any xD3 = true then (.ret,⟨xIO (.sl false ms.length (xDg ms)) (.bool true) (.int .i64 (j : Nat)),H⟩)
        else (.exit 0,⟨xIO (.sl false ms.length (xDg ms)) (.bool false) (.int .i64 (ms.length : Nat)),H⟩)) := by
  have hcl := xKV ms
  intro e
  induction e with
  | zero =>
    intro i h
    obtain rfl : i = ms.length := by omega
    refine ⟨0,?_⟩
    rw [if_neg (by rw [List.drop_length]; simp),xIP]
    simp (maxSteps := 30000000) (disch := first | assumption | omega | (simp only [WL,AV.isCell] <;> omega) | rfl | decide) only [↓reduceIte,WB,xAH,xAc,xAD,xAl,xAk,AV.cells,AV.isCell,xAb,xAg,xAh,W2,xAd,xAe,xAi,Nat.reduceAdd,Nat.reduceSub,Nat.reduceLeDiff,Nat.reduceMul,Int.reduceAdd,Int.reduceSub,Int.reduceMul,Int.reduceLT,Int.reduceLE,Int.reduceEq,Int.reduceToNat,Int.reduceNeg,Nat.reduceEqDiff,Nat.reduceBEq,Nat.reduceLT,xAR,xAS,List.length_map,xEI,xEJ]
  | succ e ih =>
    intro i h
    have hlt : (i : Int) < (ms.length : Nat) := by omega
    obtain ⟨j,ih'⟩ := ih (i + 1) (by omega)
    have h3 := xUY (l := ms) (i := i) (by omega)
    have h4 := xUZ (l := ms) (i := i) (by omega)
    rw [xBb (a := m0) (by omega : i < ms.length),List.any_cons]
    generalize hM : ms.getD i m0 = m at *
    by_cases c1 : 14 < m.next.length
    · have e0 : xD3 m = true := by simp [xD3,c1]
      have c1' : (14 : Int) < (m.next.length : Nat) := by omega
      refine ⟨i,?_⟩
      rw [e0,Bool.true_or,if_pos rfl,xIP]
      simp (maxSteps := 30000000) (disch := first | assumption | omega | (simp only [WL,AV.isCell] <;> omega) | rfl | decide) only [↓reduceIte,WB,xAH,xAc,xAD,xAl,xAk,AV.cells,AV.isCell,xAb,xAg,xAh,W2,xAd,xAe,xAi,Nat.reduceAdd,Nat.reduceSub,Nat.reduceLeDiff,Nat.reduceMul,Int.reduceAdd,Int.reduceSub,Int.reduceMul,Int.reduceLT,Int.reduceLE,Int.reduceEq,Int.reduceToNat,Int.reduceNeg,Nat.reduceEqDiff,Nat.reduceBEq,Nat.reduceLT,xAR,xAS,List.length_map,xEI,xEJ,hcl,h3,h4,hlt,c1']
    have c1' : ¬ (14 : Int) < (m.next.length : Nat) := by omega
    by_cases c2 : 16 < m.emit.length
    · have e0 : xD3 m = true := by simp [xD3,c2]
      have c2' : (16 : Int) < (m.emit.length : Nat) := by omega
      refine ⟨i,?_⟩
      rw [e0,Bool.true_or,if_pos rfl,xIP]
      simp (maxSteps := 30000000) (disch := first | assumption | omega | (simp only [WL,AV.isCell] <;> omega) | rfl | decide) only [↓reduceIte,WB,xAH,xAc,xAD,xAl,xAk,AV.cells,AV.isCell,xAb,xAg,xAh,W2,xAd,xAe,xAi,Nat.reduceAdd,Nat.reduceSub,Nat.reduceLeDiff,Nat.reduceMul,Int.reduceAdd,Int.reduceSub,Int.reduceMul,Int.reduceLT,Int.reduceLE,Int.reduceEq,Int.reduceToNat,Int.reduceNeg,Nat.reduceEqDiff,Nat.reduceBEq,Nat.reduceLT,xAR,xAS,List.length_map,xEI,xEJ,hcl,h3,h4,hlt,c1',c2']
    have c2' : ¬ (16 : Int) < (m.emit.length : Nat) := by omega
    obtain ⟨j1,hr⟩ := xY6 (H := H) (k := i) (nm := ms.length) (m := m) (by omega) hcl h3 (by omega) hm _ 0 (Nat.zero_add _)
    obtain ⟨j2,hw⟩ := xY7 (H := H) (k := i) (nm := ms.length) (m := m) (by omega) hcl h4 (by omega) hm _ 0 (Nat.zero_add _)
    simp only [Int.natCast_zero,List.drop_zero] at hr hw
    have eM : xD3 m = (xIn m.next || xIo m.emit) := by simp [xD3,c1,c2]
    rw [eM]
    by_cases c3 : xIn m.next = true
    · rw [if_pos c3] at hr
      refine ⟨i,?_⟩
      rw [c3,Bool.true_or,Bool.true_or,if_pos rfl,xIP]
      simp (maxSteps := 30000000) (disch := first | assumption | omega | (simp only [WL,AV.isCell] <;> omega) | rfl | decide) only [↓reduceIte,WB,xAH,xAc,xAD,xAl,xAk,AV.cells,AV.isCell,xAb,xAg,xAh,W2,xAd,xAe,xAi,Nat.reduceAdd,Nat.reduceSub,Nat.reduceLeDiff,Nat.reduceMul,Int.reduceAdd,Int.reduceSub,Int.reduceMul,Int.reduceLT,Int.reduceLE,Int.reduceEq,Int.reduceToNat,Int.reduceNeg,Nat.reduceEqDiff,Nat.reduceBEq,Nat.reduceLT,xAR,xAS,List.length_map,xEI,xEJ,xFL,hcl,h3,h4,hlt,c1',c2',hr]
    rw [if_neg c3] at hr
    by_cases c4 : xIo m.emit = true
    · rw [if_pos c4] at hw
      refine ⟨i,?_⟩
      rw [c4,Bool.or_true,Bool.true_or,if_pos rfl,xIP]
      simp (maxSteps := 30000000) (disch := first | assumption | omega | (simp only [WL,AV.isCell] <;> omega) | rfl | decide) only [↓reduceIte,WB,xAH,xAc,xAD,xAl,xAk,AV.cells,AV.isCell,xAb,xAg,xAh,W2,xAd,xAe,xAi,Nat.reduceAdd,Nat.reduceSub,Nat.reduceLeDiff,Nat.reduceMul,Int.reduceAdd,Int.reduceSub,Int.reduceMul,Int.reduceLT,Int.reduceLE,Int.reduceEq,Int.reduceToNat,Int.reduceNeg,Nat.reduceEqDiff,Nat.reduceBEq,Nat.reduceLT,xAR,xAS,List.length_map,xEI,xEJ,xFL,xG0,hcl,h3,h4,hlt,c1',c2',hr,hw]
    rw [if_neg c4] at hw
    have c3' : xIn m.next = false := by simpa using c3
    have c4' : xIo m.emit = false := by simpa using c4
    refine ⟨j,?_⟩
    rw [c3',c4',Bool.false_or,Bool.false_or,xIP]
    by_cases e : (ms.drop (i + 1)).any xD3 = true
    · rw [if_pos e] at ih' ⊢
      simp (maxSteps := 30000000) (disch := first | assumption | omega | (simp only [WL,AV.isCell] <;> omega) | rfl | decide) only [↓reduceIte,WB,xAH,xAc,xAD,xAl,xAk,AV.cells,AV.isCell,xAb,xAg,xAh,W2,xAd,xAe,xAi,Nat.reduceAdd,Nat.reduceSub,Nat.reduceLeDiff,Nat.reduceMul,Int.reduceAdd,Int.reduceSub,Int.reduceMul,Int.reduceLT,Int.reduceLE,Int.reduceEq,Int.reduceToNat,Int.reduceNeg,Nat.reduceEqDiff,Nat.reduceBEq,Nat.reduceLT,xAR,xAS,List.length_map,xEI,xEJ,xFL,xG0,hcl,h3,h4,hlt,c1',c2',hr,hw,ih']
    · rw [if_neg e] at ih' ⊢
      simp (maxSteps := 30000000) (disch := first | assumption | omega | (simp only [WL,AV.isCell] <;> omega) | rfl | decide) only [↓reduceIte,WB,xAH,xAc,xAD,xAl,xAk,AV.cells,AV.isCell,xAb,xAg,xAh,W2,xAd,xAe,xAi,Nat.reduceAdd,Nat.reduceSub,Nat.reduceLeDiff,Nat.reduceMul,Int.reduceAdd,Int.reduceSub,Int.reduceMul,Int.reduceLT,Int.reduceLE,Int.reduceEq,Int.reduceToNat,Int.reduceNeg,Nat.reduceEqDiff,Nat.reduceBEq,Nat.reduceLT,xAR,xAS,List.length_map,xEI,xEJ,xFL,xG0,hcl,h3,h4,hlt,c1',c2',hr,hw,ih']
theorem xY8 (ms : List Mf) (hm : ms.length < 100) : L.pcall 11 [.sl false ms.length (xDg ms)] = some (.bool (ms.any xD3)) := by
  obtain ⟨j,h⟩ := xXx (ms := ms) (H := []) hm _ 0 (Nat.zero_add _)
  simp only [Int.natCast_zero,List.drop_zero] at h
  rw [yAL,a11,xAo]
  cases c : ms.any xD3 with
  | true =>
    rw [if_pos c] at h
    simp (maxSteps := 30000000) (disch := first | assumption | omega | (simp only [WL,AV.isCell] <;> omega) | rfl | decide) only [↓reduceIte,WB,xAH,xAc,xAD,xAl,xAk,AV.cells,AV.isCell,xAb,xAg,xAh,W2,xAd,xAe,xAi,Nat.reduceAdd,Nat.reduceSub,Nat.reduceLeDiff,Nat.reduceMul,Int.reduceAdd,Int.reduceSub,Int.reduceMul,Int.reduceLT,Int.reduceLE,Int.reduceEq,Int.reduceToNat,Int.reduceNeg,Nat.reduceEqDiff,Nat.reduceBEq,Nat.reduceLT,xAR,xAS,List.length_map,xEJ,h]
  | false =>
    rw [if_neg (by simp [c])] at h
    simp (maxSteps := 30000000) (disch := first | assumption | omega | (simp only [WL,AV.isCell] <;> omega) | rfl | decide) only [↓reduceIte,WB,xAH,xAc,xAD,xAl,xAk,AV.cells,AV.isCell,xAb,xAg,xAh,W2,xAd,xAe,xAi,Nat.reduceAdd,Nat.reduceSub,Nat.reduceLeDiff,Nat.reduceMul,Int.reduceAdd,Int.reduceSub,Int.reduceMul,Int.reduceLT,Int.reduceLE,Int.reduceEq,Int.reduceToNat,Int.reduceNeg,Nat.reduceEqDiff,Nat.reduceBEq,Nat.reduceLT,xAR,xAS,List.length_map,xEJ,h]
theorem xU0 (a b : Mf) : L.pcall 11 [.sl false 2 (a.cells ++ b.cells)] = some (.bool (xD3 a || xD3 b)) := by
  have h := xY8 [a,b] (by simp)
  have e : xDg [a,b] = a.cells ++ b.cells := by unfold xDg rows; simp
  rw [e] at h
  simpa using h
theorem xPP {m : Mf} (hI : In m) (h : xD3 m = false) : Sm m := by
  unfold xD3 at h
  simp only [Bool.or_eq_false_iff,decide_eq_false_iff_not,xIn,xIo,List.any_eq_false] at h
  obtain ⟨⟨h1,h2⟩,h3⟩ := h
  refine ⟨hI.i,hI.o,by omega,by omega,fun r hr => ?_,fun w hw => ?_,hI.b⟩
  · have := h2 r hr
    simp at this; omega
  · have := h3 w hw
    simp at this; omega
end Go.Abs.Mealy
