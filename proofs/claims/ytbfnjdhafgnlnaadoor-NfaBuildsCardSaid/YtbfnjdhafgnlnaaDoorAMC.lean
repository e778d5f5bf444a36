/- closed: its result the caller's own. -/
import Derived.Test.YtbfnjdhafgnlnaaDoorAbsBun
import Derived.Test.YtbfnjdhafgnlnaaDoorAMB
namespace Go.Abs.NfaD
open Go Go.Abs
set_option linter.unusedSimpArgs false
set_option linter.unusedVariables false
def OwnG (G : Heap) (v : AV) (l : List Nat) : Prop := (v = .sl true 0 [] ∧ l = []) ∨ ∃ k r,v = .own false k 0 l.length 1 ∧ G[k]? = some (.cells false false (w64 (l ++ r)))
theorem OwnG.app {G : Heap} {v : AV} {l : List Nat} (h : OwnG G v l) (X : Heap) : OwnG (G ++ X) v l := by
 rcases h with h | ⟨k,r,e1,e2⟩
 ·exact .inl h
 ·exact .inr ⟨k,r,e1,by rw [List.getElem?_append_left (List.getElem?_eq_some_iff.1 e2).1,e2]⟩
theorem xBh {G X : Heap} {b : Nat} {x : Blk} (h : G[b]? = some x) : (G ++ X)[b]? = some x := by
 rw [List.getElem?_append_left (List.getElem?_eq_some_iff.1 h).1,h]
theorem xQC {G : Heap} {b k : Nat} {x : Blk} (h : G[b]? = some x) (hk : k ≠ b) : (G.modify k xAC)[b]? = some x := by
 rw [List.getElem?_modify,h]; simp [hk]
theorem xV6 {l : List Nat} {z : Bool} {k o n e : Nat} : w64 l ≠ [AV.own z k o n e] := by
 intro h
 cases l with
 | nil => cases h
 | cons a t => injection h with h1 _; cases h1
theorem xYp {l : List Nat} {z : Bool} {n : Nat} {cs : List AV} : w64 l ≠ [AV.sl z n cs] := by
 intro h
 cases l with
 | nil => cases h
 | cons a t => injection h with h1 _; cases h1
def Clo (ed : List Ed) (U : Nat → Bool) : Prop := ∀ e ∈ ed,U e.a.toNat = true → U e.b.toNat = true
def Sub (S U : Nat → Bool) : Prop := ∀ j,S j = true → U j = true
theorem xKs {z : Bool} {l : List Ed} {b c : Nat} (hbc : b ≠ c) (hl : l.length < 1099511627776) (hb : yCU l) : ∀ d i v ls S bb G,i + d = l.length → G[b]? = some (.cells false false [v]) → G[c]? = some (.cells false false [.sl z l.length (edges l)]) → OwnG G v ls → CanS ls S →
  ∃ v' ls' S' b' G',L.loop xL8 xTx ⟨xKj (.ptr b 0) (.bool bb) (.sl z l.length (edges l)) (.int .i64 (l.length : Nat)) (.int .i64 (i : Nat)),G⟩ =
   some (.exit 0,⟨xKj (.ptr b 0) (.bool b') (.sl z l.length (edges l)) (.int .i64 (l.length : Nat)) (.int .i64 (l.length : Nat)),G'⟩) ∧
   G'[b]? = some (.cells false false [v']) ∧ G'[c]? = some (.cells false false [.sl z l.length (edges l)]) ∧ OwnG G' v' ls' ∧ CanS ls' S' ∧ Sub S S' ∧ (∀ U,Clo l U → Sub S U → Sub S' U) ∧
   (b' = false → bb = false ∧ (∀ j,S' j = S j) ∧ ∀ e ∈ l.drop i,S e.a.toNat = true → S e.b.toNat = true) ∧
   (b' = true → bb = true ∨ ∃ j,S' j = true ∧ S j = false)
 | 0,i,v,ls,S,bb,G,h,hG,hc,hO,hS => by
  obtain rfl : i = l.length := by omega
  refine ⟨v,ls,S,bb,G,?_,hG,hc,hO,hS,fun j hj => hj,fun U _ h => h,fun hb => ⟨hb,fun _ => rfl,fun e he => ?_⟩,fun h => .inl h⟩
  ·rw [xNr]
   simp (maxSteps := 30000000) (disch := first | assumption | omega | (simp only [WL,AV.isCell,xAa] <;> omega) | rfl | decide) only [↓reduceIte,WB,xAR,xAc,xAQ,xAD,xAC,AV.cells,AV.isCell,xAb,xAj,xAk,xAs,xAt,xAu,xAv,xAw,xAx,xAL,xAy,xAz,xAl,xAA,xAm,xAn,xAB,xAo,xAp,xAf,Nat.reduceDiv,Nat.reduceMod,WP,xAI,xAF,xAX,xAW,xAV,xAG,xAH,xAE,W2,xAd,xAe,xAi,Nat.reduceAdd,Nat.reduceSub,Nat.reduceLeDiff,Nat.reduceMul,Int.reduceAdd,Int.reduceSub,Int.reduceMul,Int.reduceLT,Int.reduceLE,Int.reduceEq,Int.reduceToNat,Int.reduceNeg,Nat.reduceEqDiff,Nat.reduceBEq,Nat.reduceLT,xAa,xAg,xAO,xKi,xL9]
  ·rw [List.drop_length] at he
   simp at he
 | d + 1,i,v,ls,S,bb,G,h,hG,hc,hO,hS => by
  have hlt : (i : Int) < (l.length : Nat) := by omega
  have hmem := xFB (by omega : i < l.length)
  have hm := hb _ hmem
  have key : ∀ X : Heap,∃ zv,frz frzN (G ++ X) v = some (sw zv ls) := by
   intro X
   rcases hO.app X with ⟨rfl,rfl⟩ | ⟨k,r,rfl,hk⟩
   ·exact ⟨true,rfl⟩
   ·refine ⟨false,?_⟩
    simp (maxSteps := 30000000) (disch := first | assumption | omega | (simp only [WL,AV.isCell,xAa] <;> omega) | rfl | decide) only [↓reduceIte,WB,xAR,xAc,xAQ,xAD,xAC,AV.cells,AV.isCell,xAb,xAj,xAk,xAs,xAt,xAu,xAv,xAw,xAx,xAL,xAy,xAz,xAl,xAA,xAm,xAn,xAB,xAo,xAp,xAf,Nat.reduceDiv,Nat.reduceMod,WP,xAI,xAF,xAX,xAW,xAV,xAG,xAH,xAE,W2,xAd,xAe,xAi,Nat.reduceAdd,Nat.reduceSub,Nat.reduceLeDiff,Nat.reduceMul,Int.reduceAdd,Int.reduceSub,Int.reduceMul,Int.reduceLT,Int.reduceLE,Int.reduceEq,Int.reduceToNat,Int.reduceNeg,Nat.reduceEqDiff,Nat.reduceBEq,Nat.reduceLT,xAa,xAg,xAO,frzN,hk]
  obtain ⟨zv,hfz⟩ := key [.cells false false (xCX (l.getD i e0))]
  simp only [frzN,xCX] at hfz
  have ha := xVg (hS.has zv) (l.getD i e0).a hm.1.1 hm.1.2
  have hbb := xVg (hS.has zv) (l.getD i e0).b hm.2.1.1 hm.2.1.2
  have g1 := fun x => xBh (X := [x]) hG
  have hstay : ∀ b1 : Bool,(S (l.getD i e0).a.toNat = true → S (l.getD i e0).b.toNat = true) → ∀ S1 : Nat → Bool,(∀ e ∈ l.drop (i + 1),S e.a.toNat = true → S e.b.toNat = true) → ∀ e ∈ l.drop i,S e.a.toNat = true → S e.b.toNat = true := by
   intro _ h1 _ h2 e he
   rw [xCV (by omega : i < l.length)] at he
   rcases List.mem_cons.1 he with rfl | he
   ·exact h1
   ·exact h2 e he
  cases ca : S (l.getD i e0).a.toNat with
  | false =>
   rw [ca] at ha
   obtain ⟨v1,l1,S1,b1,G1,k1,k2,k3,k4,k5,k6,k7,k8,k9⟩ := xKs (z := z) hbc hl hb d (i + 1) v ls S bb (G ++ [.cells false false (xCX (l.getD i e0))]) (by omega) (xBh hG) (xBh hc) (hO.app _) hS
   refine ⟨v1,l1,S1,b1,G1,?_,k2,k3,k4,k5,k6,k7,fun hf => ⟨(k8 hf).1,(k8 hf).2.1,hstay true (fun q => by rw [ca] at q; cases q) S1 (k8 hf).2.2⟩,k9⟩
   simp only [xCX] at k1
   rw [xNr]
   simp (maxSteps := 30000000) (disch := first | assumption | omega | (simp only [WL,AV.isCell,xAa] <;> omega) | rfl | decide) only [↓reduceIte,WB,xAR,xAc,xAQ,xAD,xAC,AV.cells,AV.isCell,xAb,xAj,xAk,xAs,xAt,xAu,xAv,xAw,xAx,xAL,xAy,xAz,xAl,xAA,xAm,xAn,xAB,xAo,xAp,xAf,Nat.reduceDiv,Nat.reduceMod,WP,xAI,xAF,xAX,xAW,xAV,xAG,xAH,xAE,W2,xAd,xAe,xAi,Nat.reduceAdd,Nat.reduceSub,Nat.reduceLeDiff,Nat.reduceMul,Int.reduceAdd,Int.reduceSub,Int.reduceMul,Int.reduceLT,Int.reduceLE,Int.reduceEq,Int.reduceToNat,Int.reduceNeg,Nat.reduceEqDiff,Nat.reduceBEq,Nat.reduceLT,xAa,xAg,xAO,xKi,xL9,hlt,g1,hfz,ha,k1]
  | true =>
   rw [ca] at ha
   cases cb : S (l.getD i e0).b.toNat with
   | true =>
    rw [cb] at hbb
    obtain ⟨v1,l1,S1,b1,G1,k1,k2,k3,k4,k5,k6,k7,k8,k9⟩ := xKs (z := z) hbc hl hb d (i + 1) v ls S bb (G ++ [.cells false false (xCX (l.getD i e0))]) (by omega) (xBh hG) (xBh hc) (hO.app _) hS
    refine ⟨v1,l1,S1,b1,G1,?_,k2,k3,k4,k5,k6,k7,fun hf => ⟨(k8 hf).1,(k8 hf).2.1,hstay true (fun _ => cb) S1 (k8 hf).2.2⟩,k9⟩
    simp only [xCX] at k1
    rw [xNr]
    simp (maxSteps := 30000000) (disch := first | assumption | omega | (simp only [WL,AV.isCell,xAa] <;> omega) | rfl | decide) only [↓reduceIte,WB,xAR,xAc,xAQ,xAD,xAC,AV.cells,AV.isCell,xAb,xAj,xAk,xAs,xAt,xAu,xAv,xAw,xAx,xAL,xAy,xAz,xAl,xAA,xAm,xAn,xAB,xAo,xAp,xAf,Nat.reduceDiv,Nat.reduceMod,WP,xAI,xAF,xAX,xAW,xAV,xAG,xAH,xAE,W2,xAd,xAe,xAi,Nat.reduceAdd,Nat.reduceSub,Nat.reduceLeDiff,Nat.reduceMul,Int.reduceAdd,Int.reduceSub,Int.reduceMul,Int.reduceLT,Int.reduceLE,Int.reduceEq,Int.reduceToNat,Int.reduceNeg,Nat.reduceEqDiff,Nat.reduceBEq,Nat.reduceLT,xAa,xAg,xAO,xKi,xL9,hlt,g1,hfz,ha,hbb,k1]
   | false =>
    rw [cb] at hbb
    obtain ⟨u,B,l2,w1,w2,w3⟩ := xNM (hS.has zv) (l.getD i e0).b hm.2.1.1 hm.2.1.2
    have bl := (List.getElem?_eq_some_iff.1 hG).1
    have fin : ∀ (v' : AV) (G3 : Heap),G3[b]? = some (.cells false false [v']) → G3[c]? = some (.cells false false [.sl z l.length (edges l)]) → OwnG G3 v' l2 →
      (∀ k1,L.loop xL8 xTx ⟨xKj (.ptr b 0) (.bool true) (.sl z l.length (edges l)) (.int .i64 (l.length : Nat)) (.int .i64 ((i + 1 : Nat))),G3⟩ = k1 → L.loop xL8 xTx ⟨xKj (.ptr b 0) (.bool bb) (.sl z l.length (edges l)) (.int .i64 (l.length : Nat)) (.int .i64 (i : Nat)),G⟩ = k1) →
      ∃ v' ls' S' b' G',L.loop xL8 xTx ⟨xKj (.ptr b 0) (.bool bb) (.sl z l.length (edges l)) (.int .i64 (l.length : Nat)) (.int .i64 (i : Nat)),G⟩ =
       some (.exit 0,⟨xKj (.ptr b 0) (.bool b') (.sl z l.length (edges l)) (.int .i64 (l.length : Nat)) (.int .i64 (l.length : Nat)),G'⟩) ∧
       G'[b]? = some (.cells false false [v']) ∧ G'[c]? = some (.cells false false [.sl z l.length (edges l)]) ∧ OwnG G' v' ls' ∧ CanS ls' S' ∧ Sub S S' ∧ (∀ U,Clo l U → Sub S U → Sub S' U) ∧
       (b' = false → bb = false ∧ (∀ j,S' j = S j) ∧ ∀ e ∈ l.drop i,S e.a.toNat = true → S e.b.toNat = true) ∧
       (b' = true → bb = true ∨ ∃ j,S' j = true ∧ S j = false) := by
     intro v' G3 f1 f2 f3 f4
     obtain ⟨v1,l1,S1,b1,G1,k1,k2,k3,k4,k5,k6,k7,k8,k9⟩ := xKs (z := z) hbc hl hb d (i + 1) v' l2 _ true G3 (by omega) f1 f2 f3 w3
     refine ⟨v1,l1,S1,b1,G1,f4 _ k1,k2,k3,k4,k5,fun j hj => k6 j (by simp [hj]),fun U hU hSU => k7 U hU (fun j hj => ?_),fun hf => Bool.noConfusion (k8 hf).1,fun _ => .inr ⟨(l.getD i e0).b.toNat,k6 _ (by simp),cb⟩⟩
     have hj' : (S j || decide (j = (l.getD i e0).b.toNat)) = true := hj
     rw [Bool.or_eq_true] at hj'
     rcases hj' with q | q
     ·exact hSU j q
     ·rw [of_decide_eq_true q]
      exact hU _ hmem (hSU _ ca)
    rcases hO with ⟨rfl,rfl⟩ | ⟨k,r,rfl,hk⟩
    ·have hz : sw zv [] = .sl true 0 [] := by
      have : some (sw zv []) = some (.sl true 0 []) := by rw [← hfz]; rfl
      exact Option.some.inj this
     rw [hz] at w1 ha hbb
     rcases w2 with ⟨rfl,rfl,rfl⟩ | ⟨y,rfl,rfl⟩
     ·refine fin (.sl true 0 []) ((G ++ [Blk.cells false false (xCX (l.getD i e0))]).set b (.cells false false [.sl true 0 []])) ?_ ?_ (.inl ⟨rfl,rfl⟩) (fun k1 hk1 => ?_)
      ·rw [List.getElem?_set_self (by simp; omega)]
      ·rw [List.getElem?_set_ne hbc]; exact xBh hc
      ·simp only [xCX] at hk1
       rw [xNr]
       simp (maxSteps := 30000000) (disch := first | assumption | omega | (simp only [WL,AV.isCell,xAa] <;> omega) | rfl | decide) only [↓reduceIte,WB,xAR,xAc,xAQ,xAD,xAC,AV.cells,AV.isCell,xAb,xAj,xAk,xAs,xAt,xAu,xAv,xAw,xAx,xAL,xAy,xAz,xAl,xAA,xAm,xAn,xAB,xAo,xAp,xAf,Nat.reduceDiv,Nat.reduceMod,WP,xAI,xAF,xAX,xAW,xAV,xAG,xAH,xAE,W2,xAd,xAe,xAi,Nat.reduceAdd,Nat.reduceSub,Nat.reduceLeDiff,Nat.reduceMul,Int.reduceAdd,Int.reduceSub,Int.reduceMul,Int.reduceLT,Int.reduceLE,Int.reduceEq,Int.reduceToNat,Int.reduceNeg,Nat.reduceEqDiff,Nat.reduceBEq,Nat.reduceLT,xAa,xAg,xAO,xKi,xL9,hlt,g1,ha,hbb,w1,hk1]
     ·have g2 := fun x y => xBh (X := [x,y]) hG
      refine fin (.own false (G.length + 1) 0 l2.length 1) ((G ++ [Blk.cells false false (xCX (l.getD i e0)),Blk.cells false false (w64 (l2 ++ y))]).set b (.cells false false [.own false (G.length + 1) 0 l2.length 1])) ?_ ?_ (.inr ⟨G.length + 1,y,rfl,?_⟩) (fun k1 hk1 => ?_)
      ·rw [List.getElem?_set_self (by simp; omega)]
      ·rw [List.getElem?_set_ne hbc]; exact xBh hc
      ·rw [List.getElem?_set_ne (by omega)]; simp
      ·simp only [xCX] at hk1
       rw [xNr]
       simp (maxSteps := 30000000) (disch := first | assumption | omega | (simp only [WL,AV.isCell,xAa] <;> omega) | rfl | decide) only [↓reduceIte,WB,xAR,xAc,xAQ,xAD,xAC,AV.cells,AV.isCell,xAb,xAj,xAk,xAs,xAt,xAu,xAv,xAw,xAx,xAL,xAy,xAz,xAl,xAA,xAm,xAn,xAB,xAo,xAp,xAf,Nat.reduceDiv,Nat.reduceMod,WP,xAI,xAF,xAX,xAW,xAV,xAG,xAH,xAE,W2,xAd,xAe,xAi,Nat.reduceAdd,Nat.reduceSub,Nat.reduceLeDiff,Nat.reduceMul,Int.reduceAdd,Int.reduceSub,Int.reduceMul,Int.reduceLT,Int.reduceLE,Int.reduceEq,Int.reduceToNat,Int.reduceNeg,Nat.reduceEqDiff,Nat.reduceBEq,Nat.reduceLT,xAa,xAg,xAO,xKi,xL9,hlt,g1,g2,ha,hbb,w1,hk1]
    ·have kl := (List.getElem?_eq_some_iff.1 hk).1
     have hz : sw zv ls = .sl false ls.length (w64 ls) := by
      have : some (sw zv ls) = some (.sl false ls.length (w64 ls)) := by
       rw [← hfz]
       have hk2 := xBh (X := [Blk.cells false false (xCX (l.getD i e0))]) hk
       simp only [xCX] at hk2
       simp (maxSteps := 30000000) (disch := first | assumption | omega | (simp only [WL,AV.isCell,xAa] <;> omega) | rfl | decide) only [↓reduceIte,WB,xAR,xAc,xAQ,xAD,xAC,AV.cells,AV.isCell,xAb,xAj,xAk,xAs,xAt,xAu,xAv,xAw,xAx,xAL,xAy,xAz,xAl,xAA,xAm,xAn,xAB,xAo,xAp,xAf,Nat.reduceDiv,Nat.reduceMod,WP,xAI,xAF,xAX,xAW,xAV,xAG,xAH,xAE,W2,xAd,xAe,xAi,Nat.reduceAdd,Nat.reduceSub,Nat.reduceLeDiff,Nat.reduceMul,Int.reduceAdd,Int.reduceSub,Int.reduceMul,Int.reduceLT,Int.reduceLE,Int.reduceEq,Int.reduceToNat,Int.reduceNeg,Nat.reduceEqDiff,Nat.reduceBEq,Nat.reduceLT,xAa,xAg,xAO,hk2]
      exact Option.some.inj this
     rw [hz] at w1 ha hbb
     have hkb : k ≠ b := fun e => by
      subst e
      rw [hk] at hG
      injection hG with h1
      injection h1 with _ _ h2
      exact xV6 h2
     have hkc : k ≠ c := fun e => by
      subst e
      rw [hk] at hc
      injection hc with h1
      injection h1 with _ _ h2
      exact xYp h2
     have hk2 := fun x => xBh (X := [x]) hk
     rcases w2 with ⟨rfl,rfl,rfl⟩ | ⟨y,rfl,rfl⟩
     ·have g2 := fun x => xQC (xBh (X := [x]) hG) hkb
      refine fin (.sl true 0 []) (((G ++ [Blk.cells false false (xCX (l.getD i e0))]).modify k xAC).set b (.cells false false [.sl true 0 []])) ?_ ?_ (.inl ⟨rfl,rfl⟩) (fun k1 hk1 => ?_)
      ·rw [List.getElem?_set_self (by simp [List.length_modify]; omega)]
      ·rw [List.getElem?_set_ne hbc]; exact xQC (xBh hc) hkc
      ·simp only [xCX] at hk1
       rw [xNr]
       simp (maxSteps := 30000000) (disch := first | assumption | omega | (simp only [WL,AV.isCell,xAa] <;> omega) | rfl | decide) only [↓reduceIte,WB,xAR,xAc,xAQ,xAD,xAC,AV.cells,AV.isCell,xAb,xAj,xAk,xAs,xAt,xAu,xAv,xAw,xAx,xAL,xAy,xAz,xAl,xAA,xAm,xAn,xAB,xAo,xAp,xAf,Nat.reduceDiv,Nat.reduceMod,WP,xAI,xAF,xAX,xAW,xAV,xAG,xAH,xAE,W2,xAd,xAe,xAi,Nat.reduceAdd,Nat.reduceSub,Nat.reduceLeDiff,Nat.reduceMul,Int.reduceAdd,Int.reduceSub,Int.reduceMul,Int.reduceLT,Int.reduceLE,Int.reduceEq,Int.reduceToNat,Int.reduceNeg,Nat.reduceEqDiff,Nat.reduceBEq,Nat.reduceLT,xAa,xAg,xAO,xKi,xL9,hlt,g1,g2,hk2,ha,hbb,w1,hk1]
     ·have g2 := fun x y => xBh (X := [y]) (xQC (xBh (X := [x]) hG) hkb)
      refine fin (.own false (G.length + 1) 0 l2.length 1) (((G ++ [Blk.cells false false (xCX (l.getD i e0))]).modify k xAC ++ [Blk.cells false false (w64 (l2 ++ y))]).set b (.cells false false [.own false (G.length + 1) 0 l2.length 1])) ?_ ?_ (.inr ⟨G.length + 1,y,rfl,?_⟩) (fun k1 hk1 => ?_)
      ·rw [List.getElem?_set_self (by simp [List.length_modify]; omega)]
      ·rw [List.getElem?_set_ne hbc]; exact xBh (xQC (xBh hc) hkc)
      ·rw [List.getElem?_set_ne (by omega)]; simp [List.length_modify]
      ·simp only [xCX] at hk1
       rw [xNr]
       simp (maxSteps := 30000000) (disch := first | assumption | omega | (simp only [WL,AV.isCell,xAa] <;> omega) | rfl | decide) only [↓reduceIte,WB,xAR,xAc,xAQ,xAD,xAC,AV.cells,AV.isCell,xAb,xAj,xAk,xAs,xAt,xAu,xAv,xAw,xAx,xAL,xAy,xAz,xAl,xAA,xAm,xAn,xAB,xAo,xAp,xAf,Nat.reduceDiv,Nat.reduceMod,WP,xAI,xAF,xAX,xAW,xAV,xAG,xAH,xAE,W2,xAd,xAe,xAi,Nat.reduceAdd,Nat.reduceSub,Nat.reduceLeDiff,Nat.reduceMul,Int.reduceAdd,Int.reduceSub,Int.reduceMul,Int.reduceLT,Int.reduceLE,Int.reduceEq,Int.reduceToNat,Int.reduceNeg,Nat.reduceEqDiff,Nat.reduceBEq,Nat.reduceLT,xAa,xAg,xAO,xKi,xL9,hlt,g1,g2,hk2,ha,hbb,w1,hk1]
theorem yEX {z : Bool} {l : List Ed} {b c : Nat} (hbc : b ≠ c) (hl : l.length < 1099511627776) (hb : yCU l) (v : AV) (ls : List Nat) (S : Nat → Bool) (G : Heap) (hG : G[b]? = some (.cells false false [v])) (hc : G[c]? = some (.cells false false [.sl z l.length (edges l)])) (hO : OwnG G v ls) (hS : CanS ls S) :
  ∃ v' ls' S' b' G',L.icall (.func 66 [.ptr c 0,.ptr b 0]) [] G = some (.bool b',G') ∧ G'[b]? = some (.cells false false [v']) ∧ G'[c]? = some (.cells false false [.sl z l.length (edges l)]) ∧ OwnG G' v' ls' ∧
   CanS ls' S' ∧ Sub S S' ∧ (∀ U,Clo l U → Sub S U → Sub S' U) ∧ (b' = false → (∀ j,S' j = S j) ∧ Clo l S) ∧ (b' = true → ∃ j,S' j = true ∧ S j = false) := by
 obtain ⟨v1,l1,S1,b1,G1,k1,k2,k3,k4,k5,k6,k7,k8,k9⟩ := xKs (z := z) hbc hl hb l.length 0 v ls S false G (by omega) hG hc hO hS
 simp only [Int.natCast_zero] at k1
 refine ⟨v1,l1,S1,b1,G1,?_,k2,k3,k4,k5,k6,k7,fun h => ⟨(k8 h).2.1,(k8 h).2.2⟩,fun h => (k9 h).resolve_left Bool.noConfusion⟩
 rw [yEH,a66]
 simp (maxSteps := 30000000) (disch := first | assumption | omega | (simp only [WL,AV.isCell,xAa] <;> omega) | rfl | decide) only [↓reduceIte,WB,xAR,xAc,xAQ,xAD,xAC,AV.cells,AV.isCell,xAb,xAj,xAk,xAs,xAt,xAu,xAv,xAw,xAx,xAL,xAy,xAz,xAl,xAA,xAm,xAn,xAB,xAo,xAp,xAf,Nat.reduceDiv,Nat.reduceMod,WP,xAI,xAF,xAX,xAW,xAV,xAG,xAH,xAE,W2,xAd,xAe,xAi,Nat.reduceAdd,Nat.reduceSub,Nat.reduceLeDiff,Nat.reduceMul,Int.reduceAdd,Int.reduceSub,Int.reduceMul,Int.reduceLT,Int.reduceLE,Int.reduceEq,Int.reduceToNat,Int.reduceNeg,Nat.reduceEqDiff,Nat.reduceBEq,Nat.reduceLT,xAa,xAg,xAO,xL9,hc,k1]
def cnt (S : Nat → Bool) : Nat → Nat
 | 0 => 0
 | n + 1 => cnt S n + (if S n = true then 0 else 1)
theorem yAT {S U : Nat → Bool} (h : Sub S U) : ∀ n,cnt U n ≤ cnt S n
 | 0 => Nat.le_refl _
 | n + 1 => by
  have := yAT h n
  unfold cnt
  by_cases hs : S n = true
  ·rw [if_pos hs,if_pos (h n hs)]; omega
  ·rw [if_neg hs]; split <;> omega
theorem yAU {S U : Nat → Bool} (h : Sub S U) {j : Nat} (h1 : U j = true) (h2 : S j = false) : ∀ n,j < n → cnt U n < cnt S n
 | 0,hj => by omega
 | n + 1,hj => by
  unfold cnt
  rcases Nat.lt_or_ge j n with q | q
  ·have := yAU h h1 h2 n q
   by_cases hs : S n = true
   ·rw [if_pos hs,if_pos (h n hs)]; omega
   ·rw [if_neg hs]; split <;> omega
  ·obtain rfl : j = n := by omega
   have := yAT h j
   rw [if_pos h1,if_neg (by rw [h2]; exact Bool.noConfusion)]
   omega
theorem xZ7 {z : Bool} {l : List Ed} {b c : Nat} (hbc : b ≠ c) (hl : l.length < 1099511627776) (hb : yCU l) : ∀ m,∀ v ls S G,cnt S 4096 < m → G[b]? = some (.cells false false [v]) → G[c]? = some (.cells false false [.sl z l.length (edges l)]) → OwnG G v ls → CanS ls S →
  ∃ v' ls' S' G',L.loop xR6 xZB ⟨xR7 (.ptr b 0) (.func 66 [.ptr c 0,.ptr b 0]),G⟩ = some (.exit 0,⟨xR7 (.ptr b 0) (.func 66 [.ptr c 0,.ptr b 0]),G'⟩) ∧
   G'[b]? = some (.cells false false [v']) ∧ OwnG G' v' ls' ∧ CanS ls' S' ∧ Sub S S' ∧ Clo l S' ∧ (∀ U,Clo l U → Sub S U → Sub S' U) := by
 intro m
 induction m with
 | zero => intro v ls S G h; omega
 | succ m ih =>
  intro v ls S G h hG hc hO hS
  obtain ⟨v1,l1,S1,b1,G1,k1,k2,k3,k4,k5,k6,k7,k8,k9⟩ := yEX (z := z) hbc hl hb v ls S G hG hc hO hS
  cases b1 with
  | false =>
   obtain ⟨q1,q2⟩ := k8 rfl
   refine ⟨v1,l1,S1,G1,?_,k2,k4,k5,k6,fun e he q => ?_,k7⟩
   ·rw [yAy]
    simp (maxSteps := 30000000) (disch := first | assumption | omega | (simp only [WL,AV.isCell,xAa] <;> omega) | rfl | decide) only [↓reduceIte,WB,xAR,xAc,xAQ,xAD,xAC,AV.cells,AV.isCell,xAb,xAj,xAk,xAs,xAt,xAu,xAv,xAw,xAx,xAL,xAy,xAz,xAl,xAA,xAm,xAn,xAB,xAo,xAp,xAf,Nat.reduceDiv,Nat.reduceMod,WP,xAI,xAF,xAX,xAW,xAV,xAG,xAH,xAE,W2,xAd,xAe,xAi,Nat.reduceAdd,Nat.reduceSub,Nat.reduceLeDiff,Nat.reduceMul,Int.reduceAdd,Int.reduceSub,Int.reduceMul,Int.reduceLT,Int.reduceLE,Int.reduceEq,Int.reduceToNat,Int.reduceNeg,Nat.reduceEqDiff,Nat.reduceBEq,Nat.reduceLT,xAa,xAg,xAO,xUC,xUD,k1]
   ·rw [q1] at q ⊢; exact q2 e he q
  | true =>
   obtain ⟨j,q1,q2⟩ := k9 rfl
   have hj : j < 4096 := by
    rcases Nat.lt_or_ge j 4096 with q | q
    ·exact q
    ·rw [(k5.has true).out q] at q1; cases q1
   have := yAU k6 q1 q2 4096 hj
   obtain ⟨v2,l2,S2,G2,p1,p2,p3,p4,p5,p6,p7⟩ := ih v1 l1 S1 G1 (by omega) k2 k3 k4 k5
   refine ⟨v2,l2,S2,G2,?_,p2,p3,p4,fun j hj => p5 j (k6 j hj),p6,fun U hU hs => p7 U hU (k7 U hU hs)⟩
   rw [yAy]
   simp (maxSteps := 30000000) (disch := first | assumption | omega | (simp only [WL,AV.isCell,xAa] <;> omega) | rfl | decide) only [↓reduceIte,WB,xAR,xAc,xAQ,xAD,xAC,AV.cells,AV.isCell,xAb,xAj,xAk,xAs,xAt,xAu,xAv,xAw,xAx,xAL,xAy,xAz,xAl,xAA,xAm,xAn,xAB,xAo,xAp,xAf,Nat.reduceDiv,Nat.reduceMod,WP,xAI,xAF,xAX,xAW,xAV,xAG,xAH,xAE,W2,xAd,xAe,xAi,Nat.reduceAdd,Nat.reduceSub,Nat.reduceLeDiff,Nat.reduceMul,Int.reduceAdd,Int.reduceSub,Int.reduceMul,Int.reduceLT,Int.reduceLE,Int.reduceEq,Int.reduceToNat,Int.reduceNeg,Nat.reduceEqDiff,Nat.reduceBEq,Nat.reduceLT,xAa,xAg,xAO,xUC,xUD,k1,p1]
theorem xV7 {z : Bool} {l : List Ed} {v : AV} {ls : List Nat} {S : Nat → Bool} {H : Heap} (hl : l.length < 1099511627776) (hb : yCU l) (hO : OwnG H v ls) (hS : CanS ls S) :
  ∃ v' r C G,L.icall (.func 42 []) [v,.sl z l.length (edges l)] H = some (v',G) ∧ OwnG G v' r ∧ CanS r C ∧ Sub S C ∧ Clo l C ∧ (∀ U,Clo l U → Sub S U → Sub C U) := by
 obtain ⟨v2,l2,S2,G2,p1,p2,p3,p4,p5,p6,p7⟩ := xZ7 (z := z) (b := H.length) (c := H.length + 1) (by omega) hl hb (cnt S 4096 + 1) v ls S (H ++ [.cells false false [v],.cells false false [.sl z l.length (edges l)]]) (by omega) (by simp) (by simp) (hO.app _) hS
 refine ⟨v2,l2,S2,G2,?_,p3,p4,p5,p6,p7⟩
 have hcell : v.cells = [v] := by rcases hO with ⟨rfl,-⟩ | ⟨k,r,rfl,-⟩ <;> rfl
 rw [yEu,a42]
 rcases hO with ⟨rfl,-⟩ | ⟨k,r,rfl,-⟩
 ·simp (maxSteps := 30000000) (disch := first | assumption | omega | (simp only [WL,AV.isCell,xAa] <;> omega) | rfl | decide) only [↓reduceIte,WB,xAR,xAc,xAQ,xAD,xAC,AV.cells,AV.isCell,xAb,xAj,xAk,xAs,xAt,xAu,xAv,xAw,xAx,xAL,xAy,xAz,xAl,xAA,xAm,xAn,xAB,xAo,xAp,xAf,Nat.reduceDiv,Nat.reduceMod,WP,xAI,xAF,xAX,xAW,xAV,xAG,xAH,xAE,W2,xAd,xAe,xAi,Nat.reduceAdd,Nat.reduceSub,Nat.reduceLeDiff,Nat.reduceMul,Int.reduceAdd,Int.reduceSub,Int.reduceMul,Int.reduceLT,Int.reduceLE,Int.reduceEq,Int.reduceToNat,Int.reduceNeg,Nat.reduceEqDiff,Nat.reduceBEq,Nat.reduceLT,xAa,xAg,xAO,xUD,p1,p2]
 ·simp (maxSteps := 30000000) (disch := first | assumption | omega | (simp only [WL,AV.isCell,xAa] <;> omega) | rfl | decide) only [↓reduceIte,WB,xAR,xAc,xAQ,xAD,xAC,AV.cells,AV.isCell,xAb,xAj,xAk,xAs,xAt,xAu,xAv,xAw,xAx,xAL,xAy,xAz,xAl,xAA,xAm,xAn,xAB,xAo,xAp,xAf,Nat.reduceDiv,Nat.reduceMod,WP,xAI,xAF,xAX,xAW,xAV,xAG,xAH,xAE,W2,xAd,xAe,xAi,Nat.reduceAdd,Nat.reduceSub,Nat.reduceLeDiff,Nat.reduceMul,Int.reduceAdd,Int.reduceSub,Int.reduceMul,Int.reduceLT,Int.reduceLE,Int.reduceEq,Int.reduceToNat,Int.reduceNeg,Nat.reduceEqDiff,Nat.reduceBEq,Nat.reduceLT,xAa,xAg,xAO,xUD,p1,p2]
theorem xAq (d : Nat) (H : Heap) (l : List Ed) : (edges l).mapM (frz d H) = some (edges l) := by
 have : ∀ cs : List AV,(∀ c ∈ cs,∃ k n,c = AV.int k n) → cs.mapM (frz d H) = some cs := by
  intro cs
  induction cs with
  | nil => intro _; rfl
  | cons c cs ih =>
   intro h
   obtain ⟨k,n,rfl⟩ := h c (by simp)
   rw [List.mapM_cons,ih (fun c hc => h c (by simp [hc]))]
   cases d <;> rfl
 refine this _ (fun c hc => ?_)
 induction l with
 | nil => simp [edges,rows] at hc
 | cons e l ih =>
  have : edges (e :: l) = xCX e ++ edges l := rfl
  rw [this,List.mem_append] at hc
  rcases hc with h | h
  ·simp only [xCX,List.mem_cons,List.not_mem_nil,or_false] at h
   rcases h with rfl | rfl | rfl | rfl <;> exact ⟨_,_,rfl⟩
  ·exact ih h
theorem xAr (d : Nat) (H : Heap) (l : List Ed) : (edges l).flatMap (bor d H) = [] := by
 rw [List.flatMap_eq_nil_iff]
 intro c hc
 have : ∃ k n,c = AV.int k n := by
  induction l with
  | nil => simp [edges,rows] at hc
  | cons e l ih =>
   have : edges (e :: l) = xCX e ++ edges l := rfl
   rw [this,List.mem_append] at hc
   rcases hc with h | h
   ·simp only [xCX,List.mem_cons,List.not_mem_nil,or_false] at h
    rcases h with rfl | rfl | rfl | rfl <;> exact ⟨_,_,rfl⟩
   ·exact ih h
 obtain ⟨k,n,rfl⟩ := this
 cases d <;> rfl
def Rea (n : Aut) (C : Nat → Bool) : Prop := Sub (inS n.st) C ∧ Clo n.ed C ∧ ∀ U,Clo n.ed U → Sub (inS n.st) U → Sub C U
theorem xNH (n : Aut) (hf : Fits n) : ∃ u B r,xBw L 15 [n.av] = some (.tup [u,.int .i64 (xHc n)],B) ∧ OwnS u B r ∧ (xHc n = 0 → ∃ C,CanS r C ∧ Rea n C) ∧ (xHc n ≠ 0 → r = []) ∧ ∃ z,L.pcall 15 [n.av] = some (.tup [sw z r,.int .i64 (xHc n)]) := by
 obtain ⟨h1,h2⟩ := xB7 n hf
 generalize xHc n = e at *
 by_cases he : e = 0
 ·have hv := h2.1 he
  subst he
  obtain ⟨u0,B0,r0,g1,g2,g3,-⟩ := yBV (z := n.z1) hf.l1 hv.stOk
  have fin : ∀ (v : AV) (H : Heap),OwnG H v r0 → ∃ v' r C G,L.icall (.func 42 []) [v,.sl n.z3 n.ed.length (edges n.ed)] H = some (v',G) ∧ OwnG G v' r ∧ CanS r C ∧ Rea n C := by
   intro v H hO
   obtain ⟨v',r,C,G,k1,k2,k3,k4,k5,k6⟩ := xV7 (z := n.z3) hf.l3 (hv.edOk hf) hO g3
   exact ⟨v',r,C,G,k1,k2,k3,k4,k5,k6⟩
  rcases g2 with ⟨rfl,rfl,rfl⟩ | ⟨y,rfl,rfl⟩
  ·obtain ⟨v',r,C,G,k1,k2,k3,k4⟩ := fin (.sl true 0 []) [.cells false false n.cells] (.inl ⟨rfl,rfl⟩)
   rcases k2 with ⟨rfl,rfl⟩ | ⟨k,x,rfl,hk⟩
   ·refine ⟨.sl true 0 [],[],[],?_,.inl ⟨rfl,rfl,rfl⟩,fun _ => ⟨C,k3,k4⟩,fun h => absurd rfl h,true,?_⟩
    ·rw [xBk,yCt,a15,xA3]
     simp (maxSteps := 30000000) (disch := first | assumption | omega | (simp only [WL,AV.isCell,xAa] <;> omega) | rfl | decide) only [↓reduceIte,WB,xAR,xAc,xAQ,xAD,xAC,AV.cells,AV.isCell,xAb,xAj,xAk,xAs,xAt,xAu,xAv,xAw,xAx,xAL,xAy,xAz,xAl,xAA,xAm,xAn,xAB,xAo,xAp,xAf,Nat.reduceDiv,Nat.reduceMod,WP,xAI,xAF,xAX,xAW,xAV,xAG,xAH,xAE,W2,xAd,xAe,xAi,Nat.reduceAdd,Nat.reduceSub,Nat.reduceLeDiff,Nat.reduceMul,Int.reduceAdd,Int.reduceSub,Int.reduceMul,Int.reduceLT,Int.reduceLE,Int.reduceEq,Int.reduceToNat,Int.reduceNeg,Nat.reduceEqDiff,Nat.reduceBEq,Nat.reduceLT,xAa,xAg,xAO,xAq,xAr,h1,g1,k1]
    ·rw [yCs,a15,xAK]
     simp (maxSteps := 30000000) (disch := first | assumption | omega | (simp only [WL,AV.isCell,xAa] <;> omega) | rfl | decide) only [↓reduceIte,WB,xAR,xAc,xAQ,xAD,xAC,AV.cells,AV.isCell,xAb,xAj,xAk,xAs,xAt,xAu,xAv,xAw,xAx,xAL,xAy,xAz,xAl,xAA,xAm,xAn,xAB,xAo,xAp,xAf,Nat.reduceDiv,Nat.reduceMod,WP,xAI,xAF,xAX,xAW,xAV,xAG,xAH,xAE,W2,xAd,xAe,xAi,Nat.reduceAdd,Nat.reduceSub,Nat.reduceLeDiff,Nat.reduceMul,Int.reduceAdd,Int.reduceSub,Int.reduceMul,Int.reduceLT,Int.reduceLE,Int.reduceEq,Int.reduceToNat,Int.reduceNeg,Nat.reduceEqDiff,Nat.reduceBEq,Nat.reduceLT,xAa,xAg,xAO,xAq,xAr,h1,g1,k1]
     try rfl
   ·refine ⟨_,_,r,?_,.inr ⟨x,rfl,rfl⟩,fun _ => ⟨C,k3,k4⟩,fun h => absurd rfl h,false,?_⟩
    ·rw [xBk,yCt,a15,xA3]
     simp (maxSteps := 30000000) (disch := first | assumption | omega | (simp only [WL,AV.isCell,xAa] <;> omega) | rfl | decide) only [↓reduceIte,WB,xAR,xAc,xAQ,xAD,xAC,AV.cells,AV.isCell,xAb,xAj,xAk,xAs,xAt,xAu,xAv,xAw,xAx,xAL,xAy,xAz,xAl,xAA,xAm,xAn,xAB,xAo,xAp,xAf,Nat.reduceDiv,Nat.reduceMod,WP,xAI,xAF,xAX,xAW,xAV,xAG,xAH,xAE,W2,xAd,xAe,xAi,Nat.reduceAdd,Nat.reduceSub,Nat.reduceLeDiff,Nat.reduceMul,Int.reduceAdd,Int.reduceSub,Int.reduceMul,Int.reduceLT,Int.reduceLE,Int.reduceEq,Int.reduceToNat,Int.reduceNeg,Nat.reduceEqDiff,Nat.reduceBEq,Nat.reduceLT,xAa,xAg,xAO,xAq,xAr,h1,g1,k1,hk]
    ·rw [yCs,a15,xAK]
     simp (maxSteps := 30000000) (disch := first | assumption | omega | (simp only [WL,AV.isCell,xAa] <;> omega) | rfl | decide) only [↓reduceIte,WB,xAR,xAc,xAQ,xAD,xAC,AV.cells,AV.isCell,xAb,xAj,xAk,xAs,xAt,xAu,xAv,xAw,xAx,xAL,xAy,xAz,xAl,xAA,xAm,xAn,xAB,xAo,xAp,xAf,Nat.reduceDiv,Nat.reduceMod,WP,xAI,xAF,xAX,xAW,xAV,xAG,xAH,xAE,W2,xAd,xAe,xAi,Nat.reduceAdd,Nat.reduceSub,Nat.reduceLeDiff,Nat.reduceMul,Int.reduceAdd,Int.reduceSub,Int.reduceMul,Int.reduceLT,Int.reduceLE,Int.reduceEq,Int.reduceToNat,Int.reduceNeg,Nat.reduceEqDiff,Nat.reduceBEq,Nat.reduceLT,xAa,xAg,xAO,xAq,xAr,h1,g1,k1,hk]
  ·obtain ⟨v',r,C,G,k1,k2,k3,k4⟩ := fin (.own false 1 0 r0.length 1) [.cells false false n.cells,.cells false false (w64 (r0 ++ y))] (.inr ⟨1,y,rfl,rfl⟩)
   rcases k2 with ⟨rfl,rfl⟩ | ⟨k,x,rfl,hk⟩
   ·refine ⟨.sl true 0 [],[],[],?_,.inl ⟨rfl,rfl,rfl⟩,fun _ => ⟨C,k3,k4⟩,fun h => absurd rfl h,true,?_⟩
    ·rw [xBk,yCt,a15,xA3]
     simp (maxSteps := 30000000) (disch := first | assumption | omega | (simp only [WL,AV.isCell,xAa] <;> omega) | rfl | decide) only [↓reduceIte,WB,xAR,xAc,xAQ,xAD,xAC,AV.cells,AV.isCell,xAb,xAj,xAk,xAs,xAt,xAu,xAv,xAw,xAx,xAL,xAy,xAz,xAl,xAA,xAm,xAn,xAB,xAo,xAp,xAf,Nat.reduceDiv,Nat.reduceMod,WP,xAI,xAF,xAX,xAW,xAV,xAG,xAH,xAE,W2,xAd,xAe,xAi,Nat.reduceAdd,Nat.reduceSub,Nat.reduceLeDiff,Nat.reduceMul,Int.reduceAdd,Int.reduceSub,Int.reduceMul,Int.reduceLT,Int.reduceLE,Int.reduceEq,Int.reduceToNat,Int.reduceNeg,Nat.reduceEqDiff,Nat.reduceBEq,Nat.reduceLT,xAa,xAg,xAO,xAq,xAr,h1,g1,k1]
    ·rw [yCs,a15,xAK]
     simp (maxSteps := 30000000) (disch := first | assumption | omega | (simp only [WL,AV.isCell,xAa] <;> omega) | rfl | decide) only [↓reduceIte,WB,xAR,xAc,xAQ,xAD,xAC,AV.cells,AV.isCell,xAb,xAj,xAk,xAs,xAt,xAu,xAv,xAw,xAx,xAL,xAy,xAz,xAl,xAA,xAm,xAn,xAB,xAo,xAp,xAf,Nat.reduceDiv,Nat.reduceMod,WP,xAI,xAF,xAX,xAW,xAV,xAG,xAH,xAE,W2,xAd,xAe,xAi,Nat.reduceAdd,Nat.reduceSub,Nat.reduceLeDiff,Nat.reduceMul,Int.reduceAdd,Int.reduceSub,Int.reduceMul,Int.reduceLT,Int.reduceLE,Int.reduceEq,Int.reduceToNat,Int.reduceNeg,Nat.reduceEqDiff,Nat.reduceBEq,Nat.reduceLT,xAa,xAg,xAO,xAq,xAr,h1,g1,k1]
     try rfl
   ·refine ⟨_,_,r,?_,.inr ⟨x,rfl,rfl⟩,fun _ => ⟨C,k3,k4⟩,fun h => absurd rfl h,false,?_⟩
    ·rw [xBk,yCt,a15,xA3]
     simp (maxSteps := 30000000) (disch := first | assumption | omega | (simp only [WL,AV.isCell,xAa] <;> omega) | rfl | decide) only [↓reduceIte,WB,xAR,xAc,xAQ,xAD,xAC,AV.cells,AV.isCell,xAb,xAj,xAk,xAs,xAt,xAu,xAv,xAw,xAx,xAL,xAy,xAz,xAl,xAA,xAm,xAn,xAB,xAo,xAp,xAf,Nat.reduceDiv,Nat.reduceMod,WP,xAI,xAF,xAX,xAW,xAV,xAG,xAH,xAE,W2,xAd,xAe,xAi,Nat.reduceAdd,Nat.reduceSub,Nat.reduceLeDiff,Nat.reduceMul,Int.reduceAdd,Int.reduceSub,Int.reduceMul,Int.reduceLT,Int.reduceLE,Int.reduceEq,Int.reduceToNat,Int.reduceNeg,Nat.reduceEqDiff,Nat.reduceBEq,Nat.reduceLT,xAa,xAg,xAO,xAq,xAr,h1,g1,k1,hk]
    ·rw [yCs,a15,xAK]
     simp (maxSteps := 30000000) (disch := first | assumption | omega | (simp only [WL,AV.isCell,xAa] <;> omega) | rfl | decide) only [↓reduceIte,WB,xAR,xAc,xAQ,xAD,xAC,AV.cells,AV.isCell,xAb,xAj,xAk,xAs,xAt,xAu,xAv,xAw,xAx,xAL,xAy,xAz,xAl,xAA,xAm,xAn,xAB,xAo,xAp,xAf,Nat.reduceDiv,Nat.reduceMod,WP,xAI,xAF,xAX,xAW,xAV,xAG,xAH,xAE,W2,xAd,xAe,xAi,Nat.reduceAdd,Nat.reduceSub,Nat.reduceLeDiff,Nat.reduceMul,Int.reduceAdd,Int.reduceSub,Int.reduceMul,Int.reduceLT,Int.reduceLE,Int.reduceEq,Int.reduceToNat,Int.reduceNeg,Nat.reduceEqDiff,Nat.reduceBEq,Nat.reduceLT,xAa,xAg,xAO,xAq,xAr,h1,g1,k1,hk]
 ·refine ⟨.sl true 0 [],[],[],?_,.inl ⟨rfl,rfl,rfl⟩,fun h => absurd h he,fun _ => rfl,true,?_⟩
  ·rw [xBk,yCt,a15,xA3]
   simp (maxSteps := 30000000) (disch := first | assumption | omega | (simp only [WL,AV.isCell,xAa] <;> omega) | rfl | decide) only [↓reduceIte,WB,xAR,xAc,xAQ,xAD,xAC,AV.cells,AV.isCell,xAb,xAj,xAk,xAs,xAt,xAu,xAv,xAw,xAx,xAL,xAy,xAz,xAl,xAA,xAm,xAn,xAB,xAo,xAp,xAf,Nat.reduceDiv,Nat.reduceMod,WP,xAI,xAF,xAX,xAW,xAV,xAG,xAH,xAE,W2,xAd,xAe,xAi,Nat.reduceAdd,Nat.reduceSub,Nat.reduceLeDiff,Nat.reduceMul,Int.reduceAdd,Int.reduceSub,Int.reduceMul,Int.reduceLT,Int.reduceLE,Int.reduceEq,Int.reduceToNat,Int.reduceNeg,Nat.reduceEqDiff,Nat.reduceBEq,Nat.reduceLT,xAa,xAg,xAO,xAq,xAr,h1,he]
  ·rw [yCs,a15,xAK]
   simp (maxSteps := 30000000) (disch := first | assumption | omega | (simp only [WL,AV.isCell,xAa] <;> omega) | rfl | decide) only [↓reduceIte,WB,xAR,xAc,xAQ,xAD,xAC,AV.cells,AV.isCell,xAb,xAj,xAk,xAs,xAt,xAu,xAv,xAw,xAx,xAL,xAy,xAz,xAl,xAA,xAm,xAn,xAB,xAo,xAp,xAf,Nat.reduceDiv,Nat.reduceMod,WP,xAI,xAF,xAX,xAW,xAV,xAG,xAH,xAE,W2,xAd,xAe,xAi,Nat.reduceAdd,Nat.reduceSub,Nat.reduceLeDiff,Nat.reduceMul,Int.reduceAdd,Int.reduceSub,Int.reduceMul,Int.reduceLT,Int.reduceLE,Int.reduceEq,Int.reduceToNat,Int.reduceNeg,Nat.reduceEqDiff,Nat.reduceBEq,Nat.reduceLT,xAa,xAg,xAO,xAq,xAr,h1,he]
   try rfl
theorem xId (l : List Ed) : ∀ c ∈ edges l,∃ k n,c = AV.int k n := by
 intro c hc
 induction l with
 | nil => simp [edges,rows] at hc
 | cons e l ih =>
  have : edges (e :: l) = xCX e ++ edges l := rfl
  rw [this,List.mem_append] at hc
  rcases hc with h | h
  ·simp only [xCX,List.mem_cons,List.not_mem_nil,or_false] at h
   rcases h with rfl | rfl | rfl | rfl <;> exact ⟨_,_,rfl⟩
  ·exact ih h
theorem xAM (l : List Ed) : (edges l).all xAF = true := by
 rw [List.all_eq_true]
 intro c hc
 obtain ⟨k,n,rfl⟩ := xId l c hc
 rfl
theorem xPR (l : List Int) (hl : l.length < 1099511627776) : xBw L 48 [iw false l] = some (.own false 0 0 l.length 1,[.cells false false (xBd l)]) ∧ xBw L 48 [.sl true 0 []] = some (.sl true 0 [],[]) := by
 constructor
 ·rw [xBk,yDY,a48,xA3]
  simp (maxSteps := 30000000) (disch := first | assumption | omega | (simp only [WL,AV.isCell,xAa] <;> omega) | rfl | decide) only [↓reduceIte,WB,xAR,xAc,xAQ,xAD,xAC,AV.cells,AV.isCell,xAb,xAj,xAk,xAs,xAt,xAu,xAv,xAw,xAx,xAL,xAy,xAz,xAl,xAA,xAm,xAn,xAB,xAo,xAp,xAf,Nat.reduceDiv,Nat.reduceMod,WP,xAI,xAF,xAX,xAW,xAV,xAG,xAH,xAE,W2,xAd,xAe,xAi,Nat.reduceAdd,Nat.reduceSub,Nat.reduceLeDiff,Nat.reduceMul,Int.reduceAdd,Int.reduceSub,Int.reduceMul,Int.reduceLT,Int.reduceLE,Int.reduceEq,Int.reduceToNat,Int.reduceNeg,Nat.reduceEqDiff,Nat.reduceBEq,Nat.reduceLT,xAa,xAg,xAO,xAq,xAr,xAM,List.take_zero,List.drop_zero,Nat.zero_mul]
 ·rw [xBk,yDY,a48,xA3]
  simp (maxSteps := 30000000) (disch := first | assumption | omega | (simp only [WL,AV.isCell,xAa] <;> omega) | rfl | decide) only [↓reduceIte,WB,xAR,xAc,xAQ,xAD,xAC,AV.cells,AV.isCell,xAb,xAj,xAk,xAs,xAt,xAu,xAv,xAw,xAx,xAL,xAy,xAz,xAl,xAA,xAm,xAn,xAB,xAo,xAp,xAf,Nat.reduceDiv,Nat.reduceMod,WP,xAI,xAF,xAX,xAW,xAV,xAG,xAH,xAE,W2,xAd,xAe,xAi,Nat.reduceAdd,Nat.reduceSub,Nat.reduceLeDiff,Nat.reduceMul,Int.reduceAdd,Int.reduceSub,Int.reduceMul,Int.reduceLT,Int.reduceLE,Int.reduceEq,Int.reduceToNat,Int.reduceNeg,Nat.reduceEqDiff,Nat.reduceBEq,Nat.reduceLT,xAa,xAg,xAO,xAq,xAr,xAM]
theorem xPS (l : List Ed) (hl : l.length < 1099511627776) : xBw L 49 [.sl false l.length (edges l)] = some (.own false 0 0 l.length 4,[.cells false false (edges l)]) ∧ xBw L 49 [.sl true 0 []] = some (.sl true 0 [],[]) := by
 constructor
 ·rw [xBk,yDZ,a49,xA3]
  simp (maxSteps := 30000000) (disch := first | assumption | omega | (simp only [WL,AV.isCell,xAa] <;> omega) | rfl | decide) only [↓reduceIte,WB,xAR,xAc,xAQ,xAD,xAC,AV.cells,AV.isCell,xAb,xAj,xAk,xAs,xAt,xAu,xAv,xAw,xAx,xAL,xAy,xAz,xAl,xAA,xAm,xAn,xAB,xAo,xAp,xAf,Nat.reduceDiv,Nat.reduceMod,WP,xAI,xAF,xAX,xAW,xAV,xAG,xAH,xAE,W2,xAd,xAe,xAi,Nat.reduceAdd,Nat.reduceSub,Nat.reduceLeDiff,Nat.reduceMul,Int.reduceAdd,Int.reduceSub,Int.reduceMul,Int.reduceLT,Int.reduceLE,Int.reduceEq,Int.reduceToNat,Int.reduceNeg,Nat.reduceEqDiff,Nat.reduceBEq,Nat.reduceLT,xAa,xAg,xAO,xAq,xAr,xAM,List.take_zero,List.drop_zero,Nat.zero_mul]
 ·rw [xBk,yDZ,a49,xA3]
  simp (maxSteps := 30000000) (disch := first | assumption | omega | (simp only [WL,AV.isCell,xAa] <;> omega) | rfl | decide) only [↓reduceIte,WB,xAR,xAc,xAQ,xAD,xAC,AV.cells,AV.isCell,xAb,xAj,xAk,xAs,xAt,xAu,xAv,xAw,xAx,xAL,xAy,xAz,xAl,xAA,xAm,xAn,xAB,xAo,xAp,xAf,Nat.reduceDiv,Nat.reduceMod,WP,xAI,xAF,xAX,xAW,xAV,xAG,xAH,xAE,W2,xAd,xAe,xAi,Nat.reduceAdd,Nat.reduceSub,Nat.reduceLeDiff,Nat.reduceMul,Int.reduceAdd,Int.reduceSub,Int.reduceMul,Int.reduceLT,Int.reduceLE,Int.reduceEq,Int.reduceToNat,Int.reduceNeg,Nat.reduceEqDiff,Nat.reduceBEq,Nat.reduceLT,xAa,xAg,xAO,xAq,xAr,xAM]
def xBl (e : Ed) : Ed := ⟨e.b,e.a,e.p,e.n⟩
theorem xG7 (l : List Ed) (e : Ed) : edges l ++ [.int .i64 e.a,.int .i64 e.b,.int .u8 (e.p : Nat),.int .u8 (e.n : Nat)] = edges (l ++ [e]) := xVh xCX l [e]
theorem xYq {n : Aut} {k : Nat} (h : k < n.ed.length) : (n.ed.map xBl).take k ++ [xBl (n.ed.getD k e0)] = (n.ed.map xBl).take (k + 1) := by
 rw [List.take_succ_eq_append_getElem (by simpa using h)]
 simp [List.getD,List.getElem?_eq_getElem h]
def OwnEG (G : Heap) (v : AV) (l : List Ed) : Prop := (v = .sl true 0 [] ∧ l = []) ∨ ∃ k,v = .own false k 0 l.length 4 ∧ G[k]? = some (.cells false false (edges l))
theorem yBR {G : Heap} {b k : Nat} {x y : Blk} (h : G[b]? = some x) (hk : k ≠ b) : (G.set k y)[b]? = some x := by
 rw [List.getElem?_set_ne hk,h]
theorem xSX {l : List Ed} {k k2 : IntKind} {a b : Int} {x y z : AV} (hx : ∀ k n,x ≠ AV.int k n) : edges l ≠ [AV.int k a,AV.int k2 b,x,y,z] := by
 intro h
 obtain ⟨k',n',e⟩ := xId l x (by rw [h]; simp)
 exact hx _ _ e
theorem xQD {n : Aut} {p : Nat} {v s : Int} {f1 f2 : AV} (hf1 : f1.isCell = true) (hf2 : f2.isCell = true) (hx : ∀ k n,f1 ≠ AV.int k n) (hl : n.ed.length < 1000000) : ∀ d i ev G,i + d = n.ed.length → G[p]? = some (.cells false false [.int .i64 v,.int .i64 s,f1,f2,ev]) → OwnEG G ev ((n.ed.map xBl).take i) →
  ∃ ev' G',L.loop xNc xVP ⟨xL3 (.ptr 1 0) (.ptr p 0) (.sl n.z3 n.ed.length (edges n.ed)) (.int .i64 (n.ed.length : Nat)) (.int .i64 (i : Nat)),G⟩ =
   some (.exit 0,⟨xL3 (.ptr 1 0) (.ptr p 0) (.sl n.z3 n.ed.length (edges n.ed)) (.int .i64 (n.ed.length : Nat)) (.int .i64 (n.ed.length : Nat)),G'⟩) ∧
   G'[p]? = some (.cells false false [.int .i64 v,.int .i64 s,f1,f2,ev']) ∧ OwnEG G' ev' (n.ed.map xBl) ∧ ∀ k,k < G.length → k ≠ p → (∀ m,ev ≠ .own false k 0 m 4) → G'[k]? = G[k]?
 | 0,i,ev,G,h,hG,hO => by
  obtain rfl : i = n.ed.length := by omega
  rw [List.take_of_length_le (by simp)] at hO
  refine ⟨ev,G,?_,hG,hO,fun _ _ _ _ => rfl⟩
  rw [xW9]
  simp (maxSteps := 30000000) (disch := first | assumption | omega | (simp only [WL,AV.isCell,xAa] <;> omega) | rfl | decide) only [↓reduceIte,WB,xAR,xAc,xAQ,xAD,xAC,AV.cells,AV.isCell,xAb,xAj,xAk,xAs,xAt,xAu,xAv,xAw,xAx,xAL,xAy,xAz,xAl,xAA,xAm,xAn,xAB,xAo,xAp,xAf,Nat.reduceDiv,Nat.reduceMod,WP,xAI,xAF,xAX,xAW,xAV,xAG,xAH,xAE,W2,xAd,xAe,xAi,Nat.reduceAdd,Nat.reduceSub,Nat.reduceLeDiff,Nat.reduceMul,Int.reduceAdd,Int.reduceSub,Int.reduceMul,Int.reduceLT,Int.reduceLE,Int.reduceEq,Int.reduceToNat,Int.reduceNeg,Nat.reduceEqDiff,Nat.reduceBEq,Nat.reduceLT,xAa,xAg,xAO,xAq,xAr,xAM,xRC,xH6]
 | d + 1,i,ev,G,h,hG,hO => by
  have hlt : ((i : Nat) : Int) < (n.ed.length : Nat) := by omega
  have hpl := (List.getElem?_eq_some_iff.1 hG).1
  have hsn : edges ((n.ed.map xBl).take i) ++ [.int .i64 (n.ed.getD i e0).b,.int .i64 (n.ed.getD i e0).a,.int .u8 ((n.ed.getD i e0).p : Nat),.int .u8 ((n.ed.getD i e0).n : Nat)] = edges ((n.ed.map xBl).take (i + 1)) := by
   have := xG7 ((n.ed.map xBl).take i) (xBl (n.ed.getD i e0))
   rw [xYq (by omega)] at this
   exact this
  have hXl : (n.ed.map xBl).length = n.ed.length := List.length_map _
  have hti : ((n.ed.map xBl).take i).length = i := by rw [List.length_take]; omega
  have hti1 : ((n.ed.map xBl).take (i + 1)).length = i + 1 := by rw [List.length_take]; omega
  have g1 := fun x => xBh (X := [x]) hG
  rcases hO with ⟨rfl,e1⟩ | ⟨k,rfl,hk⟩
  ·have hi0 : i = 0 := by rw [← hti,e1]; rfl
   subst hi0
   rw [e1] at hsn
   have hsn' : edges ((n.ed.map xBl).take (0 + 1)) = [.int .i64 (n.ed.getD 0 e0).b,.int .i64 (n.ed.getD 0 e0).a,.int .u8 ((n.ed.getD 0 e0).p : Nat),.int .u8 ((n.ed.getD 0 e0).n : Nat)] := by rw [← hsn]; rfl
   obtain ⟨ev',G',k1,k2,k3,k4⟩ := xQD (f1 := f1) hf1 hf2 hx hl d (0 + 1) (.own false (G.length + 1) 0 1 4) ((G ++ [Blk.cells false false (xCX (n.ed.getD 0 e0)),Blk.cells false false (edges ((n.ed.map xBl).take (0 + 1)))]).set p (.cells false false [.int .i64 v,.int .i64 s,f1,f2,.own false (G.length + 1) 0 1 4])) (by omega) (by rw [List.getElem?_set_self (by simp; omega)]) (.inr ⟨G.length + 1,by rw [hti1],by rw [List.getElem?_set_ne (by omega)]; simp⟩)
   have hat : List.take 4 (edges n.ed) = [.int .i64 (n.ed.getD 0 e0).a,.int .i64 (n.ed.getD 0 e0).b,.int .u8 ((n.ed.getD 0 e0).p : Nat),.int .u8 ((n.ed.getD 0 e0).n : Nat)] := by
    have := xAg (l := n.ed) (i := 0) (by omega)
    simpa using this
   refine ⟨ev',G',?_,k2,k3,fun k q1 q2 q3 => ?_⟩
   ·have g2 := fun x y => xBh (X := [x,y]) hG
    have hlt' : (0 : Int) < (n.ed.length : Nat) := by omega
    simp only [xCX,hsn',Nat.zero_add,Int.natCast_one] at k1
    simp only [Int.natCast_zero]
    rw [xW9]
    simp (maxSteps := 30000000) (disch := first | assumption | omega | (simp only [WL,AV.isCell,xAa] <;> omega) | rfl | decide) only [↓reduceIte,WB,xAR,xAc,xAQ,xAD,xAC,AV.cells,AV.isCell,xAb,xAj,xAk,xAs,xAt,xAu,xAv,xAw,xAx,xAL,xAy,xAz,xAl,xAA,xAm,xAn,xAB,xAo,xAp,xAf,Nat.reduceDiv,Nat.reduceMod,WP,xAI,xAF,xAX,xAW,xAV,xAG,xAH,xAE,W2,xAd,xAe,xAi,Nat.reduceAdd,Nat.reduceSub,Nat.reduceLeDiff,Nat.reduceMul,Int.reduceAdd,Int.reduceSub,Int.reduceMul,Int.reduceLT,Int.reduceLE,Int.reduceEq,Int.reduceToNat,Int.reduceNeg,Nat.reduceEqDiff,Nat.reduceBEq,Nat.reduceLT,xAa,xAg,xAO,xAq,xAr,xAM,xRC,xH6,hlt',hat,g1,g2,k1]
   ·rw [k4 k (by simp; omega) q2 (fun m e => by injection e with _ a1; omega),List.getElem?_set_ne (by omega),List.getElem?_append_left q1]
  ·have kl := (List.getElem?_eq_some_iff.1 hk).1
   rw [hti]
   have hkp : k ≠ p := fun e => by
    subst e
    rw [hk] at hG
    injection hG with h1
    injection h1 with _ _ h2
    exact xSX hx h2
   have hk2 := fun x => xBh (X := [x]) hk
   have htk : List.take (i * 4) (edges ((n.ed.map xBl).take i)) = edges ((n.ed.map xBl).take i) := List.take_of_length_le (by rw [xAa,hti]; omega)
   obtain ⟨ev',G',k1,k2,k3,k4⟩ := xQD (f1 := f1) hf1 hf2 hx hl d (i + 1) (.own false (G.length + 1) 0 (i + 1) 4) (((G ++ [Blk.cells false false (xCX (n.ed.getD i e0))]).set k .dead ++ [Blk.cells false false (edges ((n.ed.map xBl).take (i + 1)))]).set p (.cells false false [.int .i64 v,.int .i64 s,f1,f2,.own false (G.length + 1) 0 (i + 1) 4])) (by omega) (by rw [List.getElem?_set_self (by simp; omega)]) (.inr ⟨G.length + 1,by rw [hti1],by rw [List.getElem?_set_ne (by omega)]; simp⟩)
   refine ⟨ev',G',?_,k2,k3,fun k' q1 q2 q3 => ?_⟩
   ·have g2 := fun x y => xBh (X := [y]) (yBR (y := Blk.dead) (xBh (X := [x]) hG) hkp)
    simp only [xCX] at k1
    rw [xW9]
    simp (maxSteps := 30000000) (disch := first | assumption | omega | (simp only [WL,AV.isCell,xAa] <;> omega) | rfl | decide) only [↓reduceIte,WB,xAR,xAc,xAQ,xAD,xAC,AV.cells,AV.isCell,xAb,xAj,xAk,xAs,xAt,xAu,xAv,xAw,xAx,xAL,xAy,xAz,xAl,xAA,xAm,xAn,xAB,xAo,xAp,xAf,Nat.reduceDiv,Nat.reduceMod,WP,xAI,xAF,xAX,xAW,xAV,xAG,xAH,xAE,W2,xAd,xAe,xAi,Nat.reduceAdd,Nat.reduceSub,Nat.reduceLeDiff,Nat.reduceMul,Int.reduceAdd,Int.reduceSub,Int.reduceMul,Int.reduceLT,Int.reduceLE,Int.reduceEq,Int.reduceToNat,Int.reduceNeg,Nat.reduceEqDiff,Nat.reduceBEq,Nat.reduceLT,xAa,xAg,xAO,xAq,xAr,xAM,xRC,xH6,hlt,hk2,htk,hti,hsn,g1,g2,k1]
   ·have hne : k ≠ k' := fun e => q3 i (by rw [← e])
    rw [k4 k' (by simp; omega) q2 (fun m e => by injection e with _ a1; omega),List.getElem?_set_ne (by omega),List.getElem?_append_left (by simp; omega),List.getElem?_set_ne hne,List.getElem?_append_left q1]
end Go.Abs.NfaD
