/- The reference's closure,in plain words. -/
import Derived.Test.YtbfnjdhafgnlnaaDoorAMC
import Derived.Test.YtbfnjdhafgnlnaaDoorAbsBun
import Derived.Test.YtbfnjdhafgnlnaaDoorAMB
import Derived.Test.YtbfnjdhafgnlnaaDoorAbsIn
import Derived.Test.YtbfnjdhafgnlnaaDoorAMD
namespace Go.Abs.NfaD
open Go Go.Abs
set_option linter.unusedSimpArgs false
set_option linter.unusedVariables false
def xHp (B : List Bool) (a b : Nat) : List Bool := if B.getD a false = true then B.set b true else B
def xHq : List (Nat × Nat) → List Bool → List Bool
 | [],B => B
 | e :: es,B => xHq es (xHp B e.1 e.2)
def xIa (es : List (Nat × Nat)) : Nat → List Bool → List Bool
 | 0,B => B
 | k + 1,B => xIa es k (xHq es B)
def xD5 : List Nat → List Bool → List Bool
 | [],B => B
 | q :: l,B => xD5 l (B.set q true)
theorem xYf (B : List Bool) (a b : Nat) : (xHp B a b).length = B.length := by unfold xHp; split <;> simp
theorem xIb : ∀ (es : List (Nat × Nat)) (B : List Bool),(xHq es B).length = B.length
 | [],_ => rfl
 | e :: es,B => by rw [xHq,xIb es,xYf]
theorem xNA (es : List (Nat × Nat)) : ∀ (k : Nat) (B : List Bool),(xIa es k B).length = B.length
 | 0,_ => rfl
 | k + 1,B => by rw [xIa,xNA es k,xIb]
theorem xG6 : ∀ (l : List Nat) (B : List Bool),(xD5 l B).length = B.length
 | [],_ => rfl
 | q :: l,B => by rw [xD5,xG6 l,List.length_set]
theorem xNB (B : List Bool) (b j : Nat) : (B.set b true).getD j false = (decide (j = b ∧ b < B.length) || B.getD j false) := by
 by_cases h : j = b
 ·subst h
  by_cases hl : j < B.length
  ·simp [List.getD_eq_getElem?_getD,hl]
  ·simp [List.getD_eq_getElem?_getD,hl]
 ·rw [List.getD_eq_getElem?_getD,List.getElem?_set_ne (fun e => h e.symm),← List.getD_eq_getElem?_getD]
  simp [h]
theorem xU2 {B : List Bool} {b : Nat} (h : B.getD b false = true) : B.set b true = B := by
 refine List.ext_getElem? fun j => ?_
 by_cases e : j = b
 ·subst e
  rw [List.getD_eq_getElem?_getD] at h
  by_cases hl : j < B.length
  ·rw [List.getElem?_eq_getElem hl] at h
   rw [List.getElem?_set_self hl,List.getElem?_eq_getElem hl]
   simp only [Option.getD_some] at h
   rw [h]
  ·rw [List.getElem?_eq_none (by omega)] at h
   cases h
 ·rw [List.getElem?_set_ne (fun h => e h.symm)]
theorem xV4 {B : List Bool} {a b j : Nat} (h : B.getD j false = true) : (xHp B a b).getD j false = true := by
 unfold xHp
 split
 ·rw [xNB,h,Bool.or_true]
 ·exact h
theorem xPI : ∀ (es : List (Nat × Nat)) {B : List Bool} {j : Nat},B.getD j false = true → (xHq es B).getD j false = true
 | [],_,_,h => h
 | e :: es,B,j,h => xPI es (xV4 h)
theorem xPJ (es : List (Nat × Nat)) : ∀ (k : Nat) {B : List Bool} {j : Nat},B.getD j false = true → (xIa es k B).getD j false = true
 | 0,_,_,h => h
 | k + 1,B,j,h => xPJ es k (xPI es h)
def xU3 (B : List Bool) : Nat := B.count true
theorem xQx : ∀ {B : List Bool} {b : Nat},b < B.length → B.getD b false = false → xU3 (B.set b true) = xU3 B + 1
 | x :: B,0,_,h => by
  have : x = false := h
  subst this
  simp [xU3]
 | x :: B,b + 1,hl,h => by
  have := xQx (B := B) (b := b) (by simpa using hl) h
  unfold xU3 at this ⊢
  rw [List.set_cons_succ,List.count_cons,List.count_cons,this]; omega
theorem xYg (B : List Bool) (a b : Nat) : xU3 B ≤ xU3 (xHp B a b) := by
 unfold xHp
 split
 ·by_cases hl : b < B.length
  ·cases hb : B.getD b false with
   | true => rw [xU2 hb]; exact Nat.le_refl _
   | false => rw [xQx hl hb]; omega
  ·rw [List.set_eq_of_length_le (by omega)]; exact Nat.le_refl _
 ·exact Nat.le_refl _
theorem xSJ : ∀ (es : List (Nat × Nat)) (B : List Bool),xU3 B ≤ xU3 (xHq es B)
 | [],_ => Nat.le_refl _
 | e :: es,B => Nat.le_trans (xYg B e.1 e.2) (xSJ es _)
def xNC (es : List (Nat × Nat)) (B : List Bool) : Prop := ∀ e ∈ es,B.getD e.1 false = true → B.getD e.2 false = true
theorem xPK {B : List Bool} {a b : Nat} (h : B.getD a false = true → B.getD b false = true) : xHp B a b = B := by
 unfold xHp
 split
 ·rename_i ha; exact xU2 (h ha)
 ·rfl
theorem xPL : ∀ {es : List (Nat × Nat)} {B : List Bool},xNC es B → xHq es B = B
 | [],_,_ => rfl
 | e :: es,B,h => by
  rw [xHq,xPK (h e List.mem_cons_self)]
  exact xPL fun f hf => h f (List.mem_cons_of_mem _ hf)
theorem xPM : ∀ {es : List (Nat × Nat)} {B : List Bool},(∀ e ∈ es,e.2 < B.length) → ¬ xNC es B → xU3 B + 1 ≤ xU3 (xHq es B)
 | [],B,_,h => absurd (fun e he => by cases he) h
 | e :: es,B,hb,h => by
  rw [xHq]
  by_cases c : B.getD e.1 false = true → B.getD e.2 false = true
  ·rw [xPK c]
   refine xPM (fun f hf => hb f (List.mem_cons_of_mem _ hf)) fun hc => h fun f hf => ?_
   rcases List.mem_cons.1 hf with rfl | hf
   ·exact c
   ·exact hc f hf
  ·have h1 : B.getD e.1 false = true := by
    cases h1 : B.getD e.1 false with
    | true => rfl
    | false => exact absurd (fun q => by rw [h1] at q; cases q) c
   have h2 : B.getD e.2 false = false := by
    cases h2 : B.getD e.2 false with
    | true => exact absurd (fun _ => h2) c
    | false => rfl
   have : xU3 (xHp B e.1 e.2) = xU3 B + 1 := by
    unfold xHp
    rw [if_pos h1,xQx (hb e List.mem_cons_self) h2]
   rw [← this]
   exact xSJ es _
theorem xZT {B : List Bool} (h : B.length ≤ xU3 B) {j : Nat} (hj : j < B.length) : B.getD j false = true := by
 have : ∀ x ∈ B,true = x := List.count_eq_length.1 (Nat.le_antisymm List.count_le_length h)
 rw [List.getD_eq_getElem?_getD,List.getElem?_eq_getElem hj]
 exact (this _ (List.getElem_mem hj)).symm
theorem xPN {es : List (Nat × Nat)} {B : List Bool} (h : xNC es B) : ∀ k,xIa es k B = B
 | 0 => rfl
 | k + 1 => by rw [xIa,xPL h]; exact xPN h k
theorem xMc {es : List (Nat × Nat)} : ∀ (k : Nat) {B : List Bool},(∀ e ∈ es,e.2 < B.length) → B.length ≤ xU3 B + k → xNC es (xIa es k B)
 | 0,B,hb,h => fun e he _ => xZT h (hb e he)
 | k + 1,B,hb,h => by
  by_cases c : xNC es B
  ·rw [xPN c]; exact c
  ·rw [xIa]
   have := xPM hb c
   exact xMc k (by rw [xIb]; exact hb) (by rw [xIb]; omega)
theorem xYh {U : Nat → Bool} {B : List Bool} {a b : Nat} (he : U a = true → U b = true) (hB : ∀ j,B.getD j false = true → U j = true) : ∀ j,(xHp B a b).getD j false = true → U j = true := by
 intro j hj
 unfold xHp at hj
 split at hj
 ·rename_i ha
  rw [xNB,Bool.or_eq_true,decide_eq_true_eq] at hj
  rcases hj with ⟨rfl,_⟩ | hj
  ·exact he (hB _ ha)
  ·exact hB j hj
 ·exact hB j hj
theorem xSK {U : Nat → Bool} : ∀ {es : List (Nat × Nat)} {B : List Bool},(∀ e ∈ es,U e.1 = true → U e.2 = true) → (∀ j,B.getD j false = true → U j = true) → ∀ j,(xHq es B).getD j false = true → U j = true
 | [],_,_,h => h
 | e :: es,B,he,h => by
  show ∀ j,(xHq es (xHp B e.1 e.2)).getD j false = true → U j = true
  exact xSK (es := es) (fun f hf => he f (List.mem_cons_of_mem _ hf)) (xYh (he e List.mem_cons_self) h)
theorem xSL {U : Nat → Bool} {es : List (Nat × Nat)} (he : ∀ e ∈ es,U e.1 = true → U e.2 = true) : ∀ (k : Nat) {B : List Bool},(∀ j,B.getD j false = true → U j = true) → ∀ j,(xIa es k B).getD j false = true → U j = true
 | 0,_,h => h
 | k + 1,B,h => xSL he k (xSK he h)
theorem xPO : ∀ (l : List Nat) {B : List Bool} (j : Nat),(∀ q ∈ l,q < B.length) → (xD5 l B).getD j false = (decide (j ∈ l) || B.getD j false)
 | [],B,j,_ => by simp [xD5]
 | q :: l,B,j,h => by
  have hq := h q List.mem_cons_self
  rw [xD5,xPO l j (by rw [List.length_set]; exact fun p hp => h p (List.mem_cons_of_mem _ hp)),xNB]
  by_cases e : j = q
  ·subst e; simp [hq]
  ·simp [e]
def ReaL (st : List Int) (ed : List Ed) (C : Nat → Bool) : Prop := Sub (inS st) C ∧ Clo ed C ∧ ∀ U,Clo ed U → Sub (inS st) U → Sub C U
theorem ReaL.uniq {st : List Int} {ed : List Ed} {C D : Nat → Bool} (h : ReaL st ed C) (k : ReaL st ed D) : ∀ j,C j = D j := by
 intro j
 rw [Bool.eq_iff_iff]
 exact ⟨h.2.2 D k.2.1 k.1 j,k.2.2 C h.2.1 h.1 j⟩
def esP (ed : List Ed) : List (Nat × Nat) := ed.map fun e => (e.a.toNat,e.b.toNat)
def xTM (s : Nat) (st : List Int) (ed : List Ed) : List Bool := xIa (esP ed) s (xD5 (st.map Int.toNat) (List.replicate s false))
theorem xU4 (s : Nat) (st : List Int) (ed : List Ed) : (xTM s st ed).length = s := by rw [xTM,xNA,xG6,List.length_replicate]
theorem xU5 {s : Nat} {st : List Int} {ed : List Ed} (hs : ∀ q ∈ st,0 ≤ q ∧ q < (s : Int)) (he : ∀ e ∈ ed,(0 ≤ e.a ∧ e.a < (s : Int)) ∧ 0 ≤ e.b ∧ e.b < (s : Int)) : ReaL st ed fun j => (xTM s st ed).getD j false := by
 have h0 : ∀ q ∈ st.map Int.toNat,q < (List.replicate s false).length := by
  intro q hq
  obtain ⟨x,hx,rfl⟩ := List.mem_map.1 hq
  have := hs x hx
  rw [List.length_replicate]; omega
 have hst : ∀ j,(xD5 (st.map Int.toNat) (List.replicate s false)).getD j false = inS st j := by
  intro j
  rw [xPO _ j h0]
  have : (List.replicate s false).getD j false = false := by
   rw [List.getD_eq_getElem?_getD,List.getElem?_replicate]
   split <;> rfl
  rw [this,Bool.or_false]
  unfold inS
  rw [Bool.eq_iff_iff,decide_eq_true_eq,List.contains_iff_mem,List.mem_map]
  constructor
  ·rintro ⟨x,hx,rfl⟩
   have := hs x hx
   rwa [Int.toNat_of_nonneg this.1]
  ·intro h
   exact ⟨_,h,rfl⟩
 have hes : ∀ e ∈ esP ed,e.2 < (xD5 (st.map Int.toNat) (List.replicate s false)).length := by
  intro p hp
  obtain ⟨e,hm,rfl⟩ := List.mem_map.1 hp
  have := he e hm
  rw [xG6,List.length_replicate]
  show e.b.toNat < s
  omega
 refine ⟨fun j hj => xPJ _ _ (by rw [hst]; exact hj),fun e hm ha => ?_,fun U hU hS j hj => ?_⟩
 ·exact xMc s hes (by rw [xG6,List.length_replicate]; omega) (e.a.toNat,e.b.toNat) (List.mem_map.2 ⟨e,hm,rfl⟩) ha
 ·refine xSL (U := U) (fun p hp => ?_) s (fun j hj => hS j (by rw [hst] at hj; exact hj)) j hj
  obtain ⟨e,hm,rfl⟩ := List.mem_map.1 hp
  exact hU e hm
def blz (l : List Bool) : List AV := l.map AV.bool
theorem xBN (l : List Bool) : (blz l).length = l.length := by simp [blz]
theorem xCM {l : List Bool} {k : Nat} (h : k < l.length) : List.take 1 (List.drop k (blz l)) = [AV.bool (l.getD k false)] := by
 rw [List.drop_eq_getElem_cons (by simpa [blz] using h),List.take_succ_cons,List.take_zero]
 simp [blz,List.getD_eq_getElem?_getD,List.getElem?_eq_getElem h]
theorem xTN {l : List Bool} {k : Nat} (h : k < l.length) : List.take k (blz l) ++ (AV.bool true :: List.drop (k + 1) (blz l)) = blz (l.set k true) := by
 unfold blz
 rw [List.map_set,List.set_eq_take_append_cons_drop,if_pos (by simpa using h)]
theorem xZU (n : Nat) : xEj [AV.bool false] n = blz (List.replicate n false) := by
 induction n with
 | zero => rfl
 | succ n ih => rw [List.replicate_succ]; simp only [xEj] at ih ⊢; rw [blz,List.map_cons]; first | (rw [← blz,← ih]; rfl) | simp [List.replicate_succ,← ih]
theorem xND {G : Heap} {o : Nat} {b : Blk} (h : G[o]? = some b) : G.set o b = G := by
 refine List.ext_getElem? fun j => ?_
 have lo := (List.getElem?_eq_some_iff.1 h).1
 by_cases e : j = o
 ·subst e; rw [List.getElem?_set_self lo,h]
 ·rw [List.getElem?_set_ne (fun h => e h.symm)]
theorem xPP {n : Aut} {s2 : AV} {p b s : Nat} {z : Bool} {l : List Int} (hl : l.length < 1000000) (hs : s ≤ 64) (hq : ∀ q ∈ l,0 ≤ q ∧ q < (s : Int)) : ∀ d i B G,i + d = l.length → B.length = s → G[b]? = some (.cells false false (blz B)) →
  L.loop xOz xXh ⟨xNh (iw z l) s2 (.ptr p 0) (.own false b 0 s 1) (.int .i64 (i : Nat)),G⟩ =
   some (.exit 0,⟨xNh (iw z l) s2 (.ptr p 0) (.own false b 0 s 1) (.int .i64 (l.length : Nat)),G.set b (.cells false false (blz (xD5 ((l.drop i).map Int.toNat) B)))⟩)
 | 0,i,B,G,h,hB,hG => by
  obtain rfl : i = l.length := by omega
  rw [List.drop_length,List.map_nil,xD5,xND hG,yAu]
  simp (maxSteps := 30000000) (disch := first | assumption | omega | (simp only [WL,AV.isCell,xAa,xBN] <;> omega) | rfl | decide) only [↓reduceIte,WB,xAR,xAc,xAQ,xAD,xAC,AV.cells,AV.isCell,xAb,xAj,xAk,xAs,xAt,xAu,xAv,xAw,xAx,xAL,xAy,xAz,xAl,xAA,xAm,xAn,xAB,xAo,xAp,xAf,Nat.reduceDiv,Nat.reduceMod,WP,xAI,xAF,xAX,xAW,xAV,xAG,xAH,xAE,W2,xAd,xAe,xAi,Nat.reduceAdd,Nat.reduceSub,Nat.reduceLeDiff,Nat.reduceMul,Int.reduceAdd,Int.reduceSub,Int.reduceMul,Int.reduceLT,Int.reduceLE,Int.reduceEq,Int.reduceToNat,Int.reduceNeg,Nat.reduceEqDiff,Nat.reduceBEq,Nat.reduceLT,xAa,xAg,xAO,xAq,xAr,xAY,xAZ,xCM,xUs,xUt]
 | d + 1,i,B,G,h,hB,hG => by
  have hlt : (i : Int) < (l.length : Nat) := by omega
  have hm : l.getD i 0 ∈ l := by
   rw [List.getD_eq_getElem?_getD,List.getElem?_eq_getElem (by omega)]
   exact List.getElem_mem _
  obtain ⟨h0,h1⟩ := hq _ hm
  rw [xBz (by omega : i < l.length),List.map_cons,xD5]
  generalize hx : l.getD i 0 = x at *
  obtain ⟨q,rfl⟩ := Int.eq_ofNat_of_zero_le h0
  have hqs : q < B.length := by omega
  have hst := xTN hqs
  have hbl := xBN B
  rw [hB] at hbl
  have lo := (List.getElem?_eq_some_iff.1 hG).1
  have ih := xPP (n := n) (s2 := s2) (p := p) (b := b) (s := s) (z := z) hl hs hq d (i + 1) (B.set q true) (G.set b (.cells false false (blz (B.set q true)))) (by omega) (by simpa using hB) (by rw [List.getElem?_set_self lo])
  rw [List.set_set,← hst] at ih
  rw [Int.toNat_natCast]
  have hqs' : q < s := by omega
  have hqI : ((q : Nat) : Int) < (s : Nat) := by omega
  generalize blz B = LB at *
  rw [yAu]
  simp (maxSteps := 30000000) (disch := first | assumption | omega | (simp only [WL,AV.isCell,xAa,xBN] <;> omega) | rfl | decide) only [↓reduceIte,WB,xAR,xAc,xAQ,xAD,xAC,AV.cells,AV.isCell,xAb,xAj,xAk,xAs,xAt,xAu,xAv,xAw,xAx,xAL,xAy,xAz,xAl,xAA,xAm,xAn,xAB,xAo,xAp,xAf,Nat.reduceDiv,Nat.reduceMod,WP,xAI,xAF,xAX,xAW,xAV,xAG,xAH,xAE,W2,xAd,xAe,xAi,Nat.reduceAdd,Nat.reduceSub,Nat.reduceLeDiff,Nat.reduceMul,Int.reduceAdd,Int.reduceSub,Int.reduceMul,Int.reduceLT,Int.reduceLE,Int.reduceEq,Int.reduceToNat,Int.reduceNeg,Nat.reduceEqDiff,Nat.reduceBEq,Nat.reduceLT,xAa,xAg,xAO,xAq,xAr,xAY,xAZ,xCM,xUs,xUt,hlt,hx,hG,hbl,hqs',hqI,ih]
def esQ (bk : Bool) (ed : List Ed) : List (Nat × Nat) := ed.map fun e => if bk = true then (e.b.toNat,e.a.toNat) else (e.a.toNat,e.b.toNat)
set_option maxHeartbeats 2000000 in
theorem xLN {n : Aut} {p b s : Nat} {bk : Bool} {s9 : AV} (hpb : p ≠ b) (hs : s ≤ 64) (hl : n.ed.length < 1000000) (he : ∀ e ∈ n.ed,(0 ≤ e.a ∧ e.a < (s : Int)) ∧ 0 ≤ e.b ∧ e.b < (s : Int)) : ∀ d i B G,i + d = n.ed.length → B.length = s → G[p]? = some (.cells false false n.cells) → G[b]? = some (.cells false false (blz B)) →
  L.loop xNj xVT ⟨xL7 (.bool bk) (.ptr p 0) (.own false b 0 s 1) s9 (.int .i64 (i : Nat)),G⟩ =
   some (.exit 4,⟨xL7 (.bool bk) (.ptr p 0) (.own false b 0 s 1) s9 (.int .i64 (n.ed.length : Nat)),G.set b (.cells false false (blz (xHq (esQ bk (n.ed.drop i)) B)))⟩)
 | 0,i,B,G,h,hB,hp,hG => by
  obtain rfl : i = n.ed.length := by omega
  rw [List.drop_length,show esQ bk [] = [] from rfl,xHq,xND hG,xRR]
  simp (maxSteps := 30000000) (disch := first | assumption | omega | (simp only [WL,AV.isCell,xAa,xBN] <;> omega) | rfl | decide) only [↓reduceIte,WB,xAR,xAc,xAQ,xAD,xAC,AV.cells,AV.isCell,xAb,xAj,xAk,xAs,xAt,xAu,xAv,xAw,xAx,xAL,xAy,xAz,xAl,xAA,xAm,xAn,xAB,xAo,xAp,xAf,Nat.reduceDiv,Nat.reduceMod,WP,xAI,xAF,xAX,xAW,xAV,xAG,xAH,xAE,W2,xAd,xAe,xAi,Nat.reduceAdd,Nat.reduceSub,Nat.reduceLeDiff,Nat.reduceMul,Int.reduceAdd,Int.reduceSub,Int.reduceMul,Int.reduceLT,Int.reduceLE,Int.reduceEq,Int.reduceToNat,Int.reduceNeg,Nat.reduceEqDiff,Nat.reduceBEq,Nat.reduceLT,xAa,xAg,xAO,xAq,xAr,xAY,xAZ,xCM,xNi,xOA,hp]
 | d + 1,i,B,G,h,hB,hp,hG => by
  have hlt : (i : Int) < (n.ed.length : Nat) := by omega
  obtain ⟨⟨a0,a1⟩,b0,b1⟩ := he _ (xFB (by omega : i < n.ed.length))
  have e0' := xAY (show i < n.ed.length by omega)
  have e1' := xAZ (show i < n.ed.length by omega)
  rw [xCV (by omega : i < n.ed.length)]
  generalize n.ed.getD i e0 = x at *
  obtain ⟨xa,hxa⟩ := Int.eq_ofNat_of_zero_le a0
  obtain ⟨xb,hxb⟩ := Int.eq_ofNat_of_zero_le b0
  have la : xa < s := by omega
  have lb : xb < s := by omega
  have laI : ((xa : Nat) : Int) < (s : Nat) := by omega
  have lbI : ((xb : Nat) : Int) < (s : Nat) := by omega
  have lo := (List.getElem?_eq_some_iff.1 hG).1
  have hbl := xBN B
  rw [hB] at hbl
  have ata := xCM (l := B) (k := xa) (by omega)
  have atb := xCM (l := B) (k := xb) (by omega)
  have hsa := xTN (l := B) (k := xa) (by omega)
  have hsb := xTN (l := B) (k := xb) (by omega)
  have same := xLN (bk := bk) (s9 := s9) hpb hs hl he d (i + 1) B G (by omega) hB hp hG
  have mk : ∀ q,q < s → L.loop xNj xVT ⟨xL7 (.bool bk) (.ptr p 0) (.own false b 0 s 1) s9 (.int .i64 ((i + 1 : Nat))),G.set b (.cells false false (blz (B.set q true)))⟩ = some (.exit 4,⟨xL7 (.bool bk) (.ptr p 0) (.own false b 0 s 1) s9 (.int .i64 (n.ed.length : Nat)),G.set b (.cells false false (blz (xHq (esQ bk (n.ed.drop (i + 1))) (B.set q true))))⟩) := fun q hq => by
   have := xLN (bk := bk) (s9 := s9) hpb hs hl he d (i + 1) (B.set q true) (G.set b (.cells false false (blz (B.set q true)))) (by omega) (by simpa using hB) (by rw [List.getElem?_set_ne (fun h => hpb h.symm)]; exact hp) (by rw [List.getElem?_set_self lo])
   rw [List.set_set] at this
   exact this
  have ma := mk xa la
  have mb := mk xb lb
  clear mk
  rw [hxa] at e0'
  rw [hxb] at e1'
  rw [← hsa] at ma
  rw [← hsb] at mb
  cases bk with
  | false =>
   have hq : esQ false (x :: n.ed.drop (i + 1)) = (xa,xb) :: esQ false (n.ed.drop (i + 1)) := by simp [esQ,hxa,hxb]
   rw [hq,xHq,xHp]
   cases hc : B.getD xa false with
   | false =>
    rw [hc] at ata
    simp only [Bool.false_eq_true,if_false]
    clear ma mb hsa hsb atb
    generalize blz B = LB at *
    rw [xRR]
    simp (maxSteps := 30000000) (disch := first | assumption | omega | (simp only [WL,AV.isCell,xAa,xBN] <;> omega) | rfl | decide) only [↓reduceIte,WB,xAR,xAc,xAQ,xAD,xAC,AV.cells,AV.isCell,xAb,xAj,xAk,xAs,xAt,xAu,xAv,xAw,xAx,xAL,xAy,xAz,xAl,xAA,xAm,xAn,xAB,xAo,xAp,xAf,Nat.reduceDiv,Nat.reduceMod,WP,xAI,xAF,xAX,xAW,xAV,xAG,xAH,xAE,W2,xAd,xAe,xAi,Nat.reduceAdd,Nat.reduceSub,Nat.reduceLeDiff,Nat.reduceMul,Int.reduceAdd,Int.reduceSub,Int.reduceMul,Int.reduceLT,Int.reduceLE,Int.reduceEq,Int.reduceToNat,Int.reduceNeg,Nat.reduceEqDiff,Nat.reduceBEq,Nat.reduceLT,xAa,xAg,xAO,xAq,xAr,xAY,xAZ,xCM,xNi,xOA,hp,hlt,e0',e1',hG,hbl,la,laI,ata,same]
   | true =>
    rw [hc] at ata
    simp only [if_true]
    clear ma same hsa hsb atb
    generalize blz B = LB at *
    rw [xRR]
    simp (maxSteps := 30000000) (disch := first | assumption | omega | (simp only [WL,AV.isCell,xAa,xBN] <;> omega) | rfl | decide) only [↓reduceIte,WB,xAR,xAc,xAQ,xAD,xAC,AV.cells,AV.isCell,xAb,xAj,xAk,xAs,xAt,xAu,xAv,xAw,xAx,xAL,xAy,xAz,xAl,xAA,xAm,xAn,xAB,xAo,xAp,xAf,Nat.reduceDiv,Nat.reduceMod,WP,xAI,xAF,xAX,xAW,xAV,xAG,xAH,xAE,W2,xAd,xAe,xAi,Nat.reduceAdd,Nat.reduceSub,Nat.reduceLeDiff,Nat.reduceMul,Int.reduceAdd,Int.reduceSub,Int.reduceMul,Int.reduceLT,Int.reduceLE,Int.reduceEq,Int.reduceToNat,Int.reduceNeg,Nat.reduceEqDiff,Nat.reduceBEq,Nat.reduceLT,xAa,xAg,xAO,xAq,xAr,xAY,xAZ,xCM,xNi,xOA,hp,hlt,e0',e1',hG,hbl,la,laI,lb,lbI,ata,mb]
  | true =>
   have hq : esQ true (x :: n.ed.drop (i + 1)) = (xb,xa) :: esQ true (n.ed.drop (i + 1)) := by simp [esQ,hxa,hxb]
   rw [hq,xHq,xHp]
   cases hc : B.getD xb false with
   | false =>
    rw [hc] at atb
    simp only [Bool.false_eq_true,if_false]
    clear ma mb hsa hsb ata
    generalize blz B = LB at *
    rw [xRR]
    simp (maxSteps := 30000000) (disch := first | assumption | omega | (simp only [WL,AV.isCell,xAa,xBN] <;> omega) | rfl | decide) only [↓reduceIte,WB,xAR,xAc,xAQ,xAD,xAC,AV.cells,AV.isCell,xAb,xAj,xAk,xAs,xAt,xAu,xAv,xAw,xAx,xAL,xAy,xAz,xAl,xAA,xAm,xAn,xAB,xAo,xAp,xAf,Nat.reduceDiv,Nat.reduceMod,WP,xAI,xAF,xAX,xAW,xAV,xAG,xAH,xAE,W2,xAd,xAe,xAi,Nat.reduceAdd,Nat.reduceSub,Nat.reduceLeDiff,Nat.reduceMul,Int.reduceAdd,Int.reduceSub,Int.reduceMul,Int.reduceLT,Int.reduceLE,Int.reduceEq,Int.reduceToNat,Int.reduceNeg,Nat.reduceEqDiff,Nat.reduceBEq,Nat.reduceLT,xAa,xAg,xAO,xAq,xAr,xAY,xAZ,xCM,xNi,xOA,hp,hlt,e0',e1',hG,hbl,lb,lbI,atb,same]
   | true =>
    rw [hc] at atb
    simp only [if_true]
    clear mb same hsa hsb ata
    generalize blz B = LB at *
    rw [xRR]
    simp (maxSteps := 30000000) (disch := first | assumption | omega | (simp only [WL,AV.isCell,xAa,xBN] <;> omega) | rfl | decide) only [↓reduceIte,WB,xAR,xAc,xAQ,xAD,xAC,AV.cells,AV.isCell,xAb,xAj,xAk,xAs,xAt,xAu,xAv,xAw,xAx,xAL,xAy,xAz,xAl,xAA,xAm,xAn,xAB,xAo,xAp,xAf,Nat.reduceDiv,Nat.reduceMod,WP,xAI,xAF,xAX,xAW,xAV,xAG,xAH,xAE,W2,xAd,xAe,xAi,Nat.reduceAdd,Nat.reduceSub,Nat.reduceLeDiff,Nat.reduceMul,Int.reduceAdd,Int.reduceSub,Int.reduceMul,Int.reduceLT,Int.reduceLE,Int.reduceEq,Int.reduceToNat,Int.reduceNeg,Nat.reduceEqDiff,Nat.reduceBEq,Nat.reduceLT,xAa,xAg,xAO,xAq,xAr,xAY,xAZ,xCM,xNi,xOA,hp,hlt,e0',e1',hG,hbl,la,laI,lb,lbI,atb,ma]
theorem xNE {n : Aut} {p b s : Nat} {bk : Bool} (hn : n.states = (s : Nat)) (hpb : p ≠ b) (hs : s ≤ 64) (hl : n.ed.length < 1000000) (he : ∀ e ∈ n.ed,(0 ≤ e.a ∧ e.a < (s : Int)) ∧ 0 ≤ e.b ∧ e.b < (s : Int)) : ∀ d i B G,i + d = s → B.length = s → G[p]? = some (.cells false false n.cells) → G[b]? = some (.cells false false (blz B)) →
  L.loop xOB xXi ⟨xNk (.bool bk) (.ptr p 0) (.own false b 0 s 1) (.int .i64 (i : Nat)),G⟩ =
   some (.exit 2,⟨xNk (.bool bk) (.ptr p 0) (.own false b 0 s 1) (.int .i64 (s : Nat)),G.set b (.cells false false (blz (xIa (esQ bk n.ed) d B)))⟩)
 | 0,i,B,G,h,hB,hp,hG => by
  obtain rfl : i = s := by omega
  rw [xIa,xND hG,yAv]
  simp (maxSteps := 30000000) (disch := first | assumption | omega | (simp only [WL,AV.isCell,xAa,xBN] <;> omega) | rfl | decide) only [↓reduceIte,WB,xAR,xAc,xAQ,xAD,xAC,AV.cells,AV.isCell,xAb,xAj,xAk,xAs,xAt,xAu,xAv,xAw,xAx,xAL,xAy,xAz,xAl,xAA,xAm,xAn,xAB,xAo,xAp,xAf,Nat.reduceDiv,Nat.reduceMod,WP,xAI,xAF,xAX,xAW,xAV,xAG,xAH,xAE,W2,xAd,xAe,xAi,Nat.reduceAdd,Nat.reduceSub,Nat.reduceLeDiff,Nat.reduceMul,Int.reduceAdd,Int.reduceSub,Int.reduceMul,Int.reduceLT,Int.reduceLE,Int.reduceEq,Int.reduceToNat,Int.reduceNeg,Nat.reduceEqDiff,Nat.reduceBEq,Nat.reduceLT,xAa,xAg,xAO,xAq,xAr,xAY,xAZ,xCM,xUu,xUv,hp,hn]
 | d + 1,i,B,G,h,hB,hp,hG => by
  have hlt : (i : Int) < (s : Nat) := by omega
  have lo := (List.getElem?_eq_some_iff.1 hG).1
  have h1 := xLN (bk := bk) (s9 := .int .i64 (i : Nat)) hpb hs hl he n.ed.length 0 B G (by omega) hB hp hG
  rw [List.drop_zero] at h1
  have h1' : L.loop xNj xVT ⟨xL7 (.bool bk) (.ptr p 0) (.own false b 0 s 1) (.int .i64 (i : Nat)) (.int .i64 0),G⟩ = _ := h1
  have h2 := xNE (bk := bk) hn hpb hs hl he d (i + 1) (xHq (esQ bk n.ed) B) (G.set b (.cells false false (blz (xHq (esQ bk n.ed) B)))) (by omega) (by rw [xIb]; exact hB) (by rw [List.getElem?_set_ne (fun h => hpb h.symm)]; exact hp) (by rw [List.getElem?_set_self lo])
  rw [List.set_set] at h2
  rw [xIa,yAv]
  simp (maxSteps := 30000000) (disch := first | assumption | omega | (simp only [WL,AV.isCell,xAa,xBN] <;> omega) | rfl | decide) only [↓reduceIte,WB,xAR,xAc,xAQ,xAD,xAC,AV.cells,AV.isCell,xAb,xAj,xAk,xAs,xAt,xAu,xAv,xAw,xAx,xAL,xAy,xAz,xAl,xAA,xAm,xAn,xAB,xAo,xAp,xAf,Nat.reduceDiv,Nat.reduceMod,WP,xAI,xAF,xAX,xAW,xAV,xAG,xAH,xAE,W2,xAd,xAe,xAi,Nat.reduceAdd,Nat.reduceSub,Nat.reduceLeDiff,Nat.reduceMul,Int.reduceAdd,Int.reduceSub,Int.reduceMul,Int.reduceLT,Int.reduceLE,Int.reduceEq,Int.reduceToNat,Int.reduceNeg,Nat.reduceEqDiff,Nat.reduceBEq,Nat.reduceLT,xAa,xAg,xAO,xAq,xAr,xAY,xAZ,xCM,xUu,xUv,hp,hn,hlt,xOA,h1',h2]
def xSM (B : List Bool) : List Int := ((List.range B.length).filter fun j => B.getD j false).map Int.ofNat
def xNQ (B : List Bool) (k : Nat) : List Int := ((List.range k).filter fun j => B.getD j false).map Int.ofNat
theorem xYi (B : List Bool) (k : Nat) : xNQ B (k + 1) = xNQ B k ++ if B.getD k false = true then [(k : Int)] else [] := by
 unfold xNQ
 rw [List.range_succ,List.filter_append,List.map_append]
 congr 1
 rw [List.filter_cons]
 cases h : B.getD k false <;> rfl
theorem xZV (B : List Bool) (k : Nat) : (xNQ B k).length ≤ k := by
 unfold xNQ
 rw [List.length_map]
 exact Nat.le_trans (List.length_filter_le _ _) (by simp)
set_option maxHeartbeats 2000000 in
theorem xJu {n : Aut} {p b s : Nat} {B : List Bool} (hn : n.states = (s : Nat)) (hpb : p ≠ b) (hs : s ≤ 64) (hB : B.length = s) : ∀ d i G v,i + d = s → G[p]? = some (.cells false false n.cells) → G[b]? = some (.cells false false (blz B)) → ((v = .sl true 0 [] ∧ xNQ B i = []) ∨ ∃ k,v = .own false k 0 (xNQ B i).length 1 ∧ G[k]? = some (.cells false false (xBd (xNQ B i))) ∧ k ≠ p ∧ k ≠ b) →
  ∃ G' v',L.loop xOD xXj ⟨xOE (.ptr p 0) (.own false b 0 s 1) v (.int .i64 (i : Nat)),G⟩ =
   some (.exit 6,⟨xOE (.ptr p 0) (.own false b 0 s 1) v' (.int .i64 (s : Nat)),G'⟩) ∧ ((v' = .sl true 0 [] ∧ xSM B = []) ∨ ∃ k,v' = .own false k 0 (xSM B).length 1 ∧ G'[k]? = some (.cells false false (xBd (xSM B))))
 | 0,i,G,v,h,hp,hG,hv => by
  obtain rfl : i = s := by omega
  have hK : xNQ B i = xSM B := by unfold xSM xNQ; rw [hB]
  rw [hK] at hv
  refine ⟨G,v,?_,?_⟩
  ·rw [xUw]
   simp (maxSteps := 30000000) (disch := first | assumption | omega | (simp only [WL,AV.isCell,xAa,xBN] <;> omega) | rfl | decide) only [↓reduceIte,WB,xAR,xAc,xAQ,xAD,xAC,AV.cells,AV.isCell,xAb,xAj,xAk,xAs,xAt,xAu,xAv,xAw,xAx,xAL,xAy,xAz,xAl,xAA,xAm,xAn,xAB,xAo,xAp,xAf,Nat.reduceDiv,Nat.reduceMod,WP,xAI,xAF,xAX,xAW,xAV,xAG,xAH,xAE,W2,xAd,xAe,xAi,Nat.reduceAdd,Nat.reduceSub,Nat.reduceLeDiff,Nat.reduceMul,Int.reduceAdd,Int.reduceSub,Int.reduceMul,Int.reduceLT,Int.reduceLE,Int.reduceEq,Int.reduceToNat,Int.reduceNeg,Nat.reduceEqDiff,Nat.reduceBEq,Nat.reduceLT,xAa,xAg,xAO,xAq,xAr,xAY,xAZ,xCM,xOC,xOF,hp,hn]
  ·rcases hv with hv | ⟨k,h1,h2,_⟩
   ·exact .inl hv
   ·exact .inr ⟨k,h1,h2⟩
 | d + 1,i,G,v,h,hp,hG,hv => by
  have hlt : (i : Int) < (s : Nat) := by omega
  have hltN : i < s := by omega
  have hbl := xBN B
  rw [hB] at hbl
  have hat := xCM (l := B) (k := i) (by omega)
  have hsucc := xYi B i
  have hkl := xZV B i
  cases hc : B.getD i false with
  | false =>
   rw [hc] at hat hsucc
   simp only [Bool.false_eq_true,if_false,List.append_nil] at hsucc
   rw [← hsucc] at hv
   obtain ⟨G',v',q1,q2⟩ := xJu hn hpb hs hB d (i + 1) G v (by omega) hp hG hv
   refine ⟨G',v',?_,q2⟩
   generalize blz B = LB at *
   rw [xUw]
   simp (maxSteps := 30000000) (disch := first | assumption | omega | (simp only [WL,AV.isCell,xAa,xBN] <;> omega) | rfl | decide) only [↓reduceIte,WB,xAR,xAc,xAQ,xAD,xAC,AV.cells,AV.isCell,xAb,xAj,xAk,xAs,xAt,xAu,xAv,xAw,xAx,xAL,xAy,xAz,xAl,xAA,xAm,xAn,xAB,xAo,xAp,xAf,Nat.reduceDiv,Nat.reduceMod,WP,xAI,xAF,xAX,xAW,xAV,xAG,xAH,xAE,W2,xAd,xAe,xAi,Nat.reduceAdd,Nat.reduceSub,Nat.reduceLeDiff,Nat.reduceMul,Int.reduceAdd,Int.reduceSub,Int.reduceMul,Int.reduceLT,Int.reduceLE,Int.reduceEq,Int.reduceToNat,Int.reduceNeg,Nat.reduceEqDiff,Nat.reduceBEq,Nat.reduceLT,xAa,xAg,xAO,xAq,xAr,xAY,xAZ,xCM,xOC,xOF,hp,hn,hlt,hltN,hG,hbl,hat,q1]
  | true =>
   rw [hc] at hat hsucc
   simp only [if_true] at hsucc
   have lp := (List.getElem?_eq_some_iff.1 hp).1
   have lb := (List.getElem?_eq_some_iff.1 hG).1
   rcases hv with ⟨rfl,h0⟩ | ⟨k,rfl,hk,k1,k2⟩
   ·rw [h0,List.nil_append] at hsucc
    obtain ⟨G',v',q1,q2⟩ := xJu hn hpb hs hB d (i + 1) (G ++ [.cells false false [.int .i64 (i : Nat)]]) (.own false G.length 0 1 1) (by omega) (xBh hp) (xBh hG)
     (.inr ⟨G.length,by rw [hsucc]; rfl,by rw [hsucc,List.getElem?_append_right (Nat.le_refl _),Nat.sub_self]; rfl,by omega,by omega⟩)
    refine ⟨G',v',?_,q2⟩
    generalize blz B = LB at *
    rw [xUw]
    simp (maxSteps := 30000000) (disch := first | assumption | omega | (simp only [WL,AV.isCell,xAa,xBN] <;> omega) | rfl | decide) only [↓reduceIte,WB,xAR,xAc,xAQ,xAD,xAC,AV.cells,AV.isCell,xAb,xAj,xAk,xAs,xAt,xAu,xAv,xAw,xAx,xAL,xAy,xAz,xAl,xAA,xAm,xAn,xAB,xAo,xAp,xAf,Nat.reduceDiv,Nat.reduceMod,WP,xAI,xAF,xAX,xAW,xAV,xAG,xAH,xAE,W2,xAd,xAe,xAi,Nat.reduceAdd,Nat.reduceSub,Nat.reduceLeDiff,Nat.reduceMul,Int.reduceAdd,Int.reduceSub,Int.reduceMul,Int.reduceLT,Int.reduceLE,Int.reduceEq,Int.reduceToNat,Int.reduceNeg,Nat.reduceEqDiff,Nat.reduceBEq,Nat.reduceLT,xAa,xAg,xAO,xAq,xAr,xAY,xAZ,xCM,xOC,xOF,hp,hn,hlt,hltN,hG,hbl,hat,q1]
   ·have lk := (List.getElem?_eq_some_iff.1 hk).1
    have hlen : (xNQ B (i + 1)).length = (xNQ B i).length + 1 := by rw [hsucc]; simp
    have happ : xBd (xNQ B i) ++ [.int .i64 (i : Nat)] = xBd (xNQ B (i + 1)) := by rw [hsucc]; simp [xBd]
    obtain ⟨G',v',q1,q2⟩ := xJu hn hpb hs hB d (i + 1) (G.set k .dead ++ [.cells false false (xBd (xNQ B (i + 1)))]) (.own false G.length 0 ((xNQ B i).length + 1) 1) (by omega)
     (xBh (by rw [List.getElem?_set_ne k1]; exact hp)) (xBh (by rw [List.getElem?_set_ne k2]; exact hG))
     (.inr ⟨G.length,by rw [hlen],by rw [List.getElem?_append_right (by simp),List.length_set,Nat.sub_self]; rfl,by omega,by omega⟩)
    refine ⟨G',v',?_,q2⟩
    have hil := xAT (xNQ B i)
    have hit := xBO (xNQ B i)
    generalize xBd (xNQ B (i + 1)) = L2 at *
    generalize xBd (xNQ B i) = L1 at *
    generalize (xNQ B i).length = m at *
    generalize blz B = LB at *
    rw [xUw]
    simp (maxSteps := 30000000) (disch := first | assumption | omega | (simp only [WL,AV.isCell,xAa,xBN] <;> omega) | rfl | decide) only [↓reduceIte,WB,xAR,xAc,xAQ,xAD,xAC,AV.cells,AV.isCell,xAb,xAj,xAk,xAs,xAt,xAu,xAv,xAw,xAx,xAL,xAy,xAz,xAl,xAA,xAm,xAn,xAB,xAo,xAp,xAf,Nat.reduceDiv,Nat.reduceMod,WP,xAI,xAF,xAX,xAW,xAV,xAG,xAH,xAE,W2,xAd,xAe,xAi,Nat.reduceAdd,Nat.reduceSub,Nat.reduceLeDiff,Nat.reduceMul,Int.reduceAdd,Int.reduceSub,Int.reduceMul,Int.reduceLT,Int.reduceLE,Int.reduceEq,Int.reduceToNat,Int.reduceNeg,Nat.reduceEqDiff,Nat.reduceBEq,Nat.reduceLT,xAa,xAg,xAO,xAq,xAr,xAY,xAZ,xCM,xOC,xOF,hp,hn,hlt,hltN,hG,hbl,hat,hk,hil,hit,happ,q1]
theorem xJO {l : List Int} {z z' : Bool} {s4 : AV} {H : Heap} (hl : l.length < 1099511627776) : ∀ d i,i + d = l.length →
  L.loop xRN xZu ⟨xRO (iw z l) (iw z' l) s4 (.int .i64 (i : Nat)),H⟩ = some (.exit 0,⟨xRO (iw z l) (iw z' l) s4 (.int .i64 (l.length : Nat)),H⟩)
 | 0,i,h => by
  obtain rfl : i = l.length := by omega
  rw [yAt]
  simp (maxSteps := 30000000) (disch := first | assumption | omega | (simp only [WL,AV.isCell,xAa] <;> omega) | rfl | decide) only [↓reduceIte,WB,xAR,xAc,xAQ,xAD,xAC,AV.cells,AV.isCell,xAb,xAj,xAk,xAs,xAt,xAu,xAv,xAw,xAx,xAL,xAy,xAz,xAl,xAA,xAm,xAn,xAB,xAo,xAp,xAf,Nat.reduceDiv,Nat.reduceMod,WP,xAI,xAF,xAX,xAW,xAV,xAG,xAH,xAE,W2,xAd,xAe,xAi,Nat.reduceAdd,Nat.reduceSub,Nat.reduceLeDiff,Nat.reduceMul,Int.reduceAdd,Int.reduceSub,Int.reduceMul,Int.reduceLT,Int.reduceLE,Int.reduceEq,Int.reduceToNat,Int.reduceNeg,Nat.reduceEqDiff,Nat.reduceBEq,Nat.reduceLT,xAa,xAg,xAq,xAr,xUr,xXg]
 | d + 1,i,h => by
  have hlt : (i : Int) < (l.length : Nat) := by omega
  have ih := xJO (z := z) (z' := z') (s4 := s4) (H := H) hl d (i + 1) (by omega)
  rw [yAt]
  simp (maxSteps := 30000000) (disch := first | assumption | omega | (simp only [WL,AV.isCell,xAa] <;> omega) | rfl | decide) only [↓reduceIte,WB,xAR,xAc,xAQ,xAD,xAC,AV.cells,AV.isCell,xAb,xAj,xAk,xAs,xAt,xAu,xAv,xAw,xAx,xAL,xAy,xAz,xAl,xAA,xAm,xAn,xAB,xAo,xAp,xAf,Nat.reduceDiv,Nat.reduceMod,WP,xAI,xAF,xAX,xAW,xAV,xAG,xAH,xAE,W2,xAd,xAe,xAi,Nat.reduceAdd,Nat.reduceSub,Nat.reduceLeDiff,Nat.reduceMul,Int.reduceAdd,Int.reduceSub,Int.reduceMul,Int.reduceLT,Int.reduceLE,Int.reduceEq,Int.reduceToNat,Int.reduceNeg,Nat.reduceEqDiff,Nat.reduceBEq,Nat.reduceLT,xAa,xAg,xAq,xAr,xUr,xXg,hlt,ih]
theorem xSN (z z' : Bool) (l : List Int) (hl : l.length < 1099511627776) : L.pcall 31 [iw z l,iw z' l] = some (.bool true) := by
 have ih := fun s4 => xJO (z := z) (z' := z') (s4 := s4) (H := []) hl l.length 0 (by omega)
 simp only [Int.natCast_zero] at ih
 rw [yEn,a31,xAK]
 simp (maxSteps := 30000000) (disch := first | assumption | omega | (simp only [WL,AV.isCell,xAa] <;> omega) | rfl | decide) only [↓reduceIte,WB,xAR,xAc,xAQ,xAD,xAC,AV.cells,AV.isCell,xAb,xAj,xAk,xAs,xAt,xAu,xAv,xAw,xAx,xAL,xAy,xAz,xAl,xAA,xAm,xAn,xAB,xAo,xAp,xAf,Nat.reduceDiv,Nat.reduceMod,WP,xAI,xAF,xAX,xAW,xAV,xAG,xAH,xAE,W2,xAd,xAe,xAi,Nat.reduceAdd,Nat.reduceSub,Nat.reduceLeDiff,Nat.reduceMul,Int.reduceAdd,Int.reduceSub,Int.reduceMul,Int.reduceLT,Int.reduceLE,Int.reduceEq,Int.reduceToNat,Int.reduceNeg,Nat.reduceEqDiff,Nat.reduceBEq,Nat.reduceLT,xAa,xAg,xAq,xAr,xXg,ih]
theorem xKq {l : List Ed} {z z' : Bool} {s4 : AV} {H : Heap} (hl : l.length < 1099511627776) : ∀ d i,i + d = l.length →
  L.loop xSd xZF ⟨xSe (.sl z l.length (edges l)) (.sl z' l.length (edges l)) s4 (.int .i64 (i : Nat)),H⟩ = some (.exit 0,⟨xSe (.sl z l.length (edges l)) (.sl z' l.length (edges l)) s4 (.int .i64 (l.length : Nat)),H⟩)
 | 0,i,h => by
  obtain rfl : i = l.length := by omega
  rw [yAA]
  simp (maxSteps := 30000000) (disch := first | assumption | omega | (simp only [WL,AV.isCell,xAa] <;> omega) | rfl | decide) only [↓reduceIte,WB,xAR,xAc,xAQ,xAD,xAC,AV.cells,AV.isCell,xAb,xAj,xAk,xAs,xAt,xAu,xAv,xAw,xAx,xAL,xAy,xAz,xAl,xAA,xAm,xAn,xAB,xAo,xAp,xAf,Nat.reduceDiv,Nat.reduceMod,WP,xAI,xAF,xAX,xAW,xAV,xAG,xAH,xAE,W2,xAd,xAe,xAi,Nat.reduceAdd,Nat.reduceSub,Nat.reduceLeDiff,Nat.reduceMul,Int.reduceAdd,Int.reduceSub,Int.reduceMul,Int.reduceLT,Int.reduceLE,Int.reduceEq,Int.reduceToNat,Int.reduceNeg,Nat.reduceEqDiff,Nat.reduceBEq,Nat.reduceLT,xAa,xAg,xAq,xAr,xUH,xXp]
 | d + 1,i,h => by
  have hlt : (i : Int) < (l.length : Nat) := by omega
  have ih := xKq (z := z) (z' := z') (s4 := s4) (H := H) hl d (i + 1) (by omega)
  rw [yAA]
  simp (maxSteps := 30000000) (disch := first | assumption | omega | (simp only [WL,AV.isCell,xAa] <;> omega) | rfl | decide) only [↓reduceIte,WB,xAR,xAc,xAQ,xAD,xAC,AV.cells,AV.isCell,xAb,xAj,xAk,xAs,xAt,xAu,xAv,xAw,xAx,xAL,xAy,xAz,xAl,xAA,xAm,xAn,xAB,xAo,xAp,xAf,Nat.reduceDiv,Nat.reduceMod,WP,xAI,xAF,xAX,xAW,xAV,xAG,xAH,xAE,W2,xAd,xAe,xAi,Nat.reduceAdd,Nat.reduceSub,Nat.reduceLeDiff,Nat.reduceMul,Int.reduceAdd,Int.reduceSub,Int.reduceMul,Int.reduceLT,Int.reduceLE,Int.reduceEq,Int.reduceToNat,Int.reduceNeg,Nat.reduceEqDiff,Nat.reduceBEq,Nat.reduceLT,xAa,xAg,xAq,xAr,xUH,xXp,hlt,xCk,eq1,beq_self_eq_true,Bool.and_true,bne_self_eq_false,ih]
theorem xZW (z z' : Bool) (l : List Ed) (hl : l.length < 1099511627776) : L.pcall 50 [.sl z l.length (edges l),.sl z' l.length (edges l)] = some (.bool true) := by
 have ih := fun s4 => xKq (z := z) (z' := z') (s4 := s4) (H := []) hl l.length 0 (by omega)
 simp only [Int.natCast_zero] at ih
 rw [yEx,a50,xAK]
 simp (maxSteps := 30000000) (disch := first | assumption | omega | (simp only [WL,AV.isCell,xAa] <;> omega) | rfl | decide) only [↓reduceIte,WB,xAR,xAc,xAQ,xAD,xAC,AV.cells,AV.isCell,xAb,xAj,xAk,xAs,xAt,xAu,xAv,xAw,xAx,xAL,xAy,xAz,xAl,xAA,xAm,xAn,xAB,xAo,xAp,xAf,Nat.reduceDiv,Nat.reduceMod,WP,xAI,xAF,xAX,xAW,xAV,xAG,xAH,xAE,W2,xAd,xAe,xAi,Nat.reduceAdd,Nat.reduceSub,Nat.reduceLeDiff,Nat.reduceMul,Int.reduceAdd,Int.reduceSub,Int.reduceMul,Int.reduceLT,Int.reduceLE,Int.reduceEq,Int.reduceToNat,Int.reduceNeg,Nat.reduceEqDiff,Nat.reduceBEq,Nat.reduceLT,xAa,xAg,xAq,xAr,xXp,ih]
theorem xMw (n : Aut) (hf : Fits n) (z1 z2 z3 : Bool) : L.pcall 22 [(Aut.mk n.vars n.states z1 n.st z2 n.fi z3 n.ed).av,n.av] = some (.bool true) := by
 have g1 := xSN z1 n.z1 n.st hf.l1
 have g2 := xSN z2 n.z2 n.fi hf.l2
 have g3 := xZW z3 n.z3 n.ed hf.l3
 rw [yEl,a22,xAK]
 simp (maxSteps := 30000000) (disch := first | assumption | omega | (simp only [WL,AV.isCell,xAa] <;> omega) | rfl | decide) only [↓reduceIte,WB,xAR,xAc,xAQ,xAD,xAC,AV.cells,AV.isCell,xAb,xAj,xAk,xAs,xAt,xAu,xAv,xAw,xAx,xAL,xAy,xAz,xAl,xAA,xAm,xAn,xAB,xAo,xAp,xAf,Nat.reduceDiv,Nat.reduceMod,WP,xAI,xAF,xAX,xAW,xAV,xAG,xAH,xAE,W2,xAd,xAe,xAi,Nat.reduceAdd,Nat.reduceSub,Nat.reduceLeDiff,Nat.reduceMul,Int.reduceAdd,Int.reduceSub,Int.reduceMul,Int.reduceLT,Int.reduceLE,Int.reduceEq,Int.reduceToNat,Int.reduceNeg,Nat.reduceEqDiff,Nat.reduceBEq,Nat.reduceLT,xAa,xAg,xAq,xAr,g1,g2,g3]
abbrev yB7 : TS := ⟨true,[.int .i64,.int .i64,.sl [.int .i64],.sl [.int .i64],.sl [.int .i64,.int .i64,.int .u8,.int .u8]]⟩
theorem xSO : ∀ (cs : List AV),(∀ x ∈ cs,Fit (.int .i64) x) → ∃ l : List Int,cs = xBd l
 | [],_ => ⟨[],rfl⟩
 | a :: cs,h => by
  obtain ⟨n,rfl,_⟩ := xNz (h a (by simp))
  obtain ⟨l,rfl⟩ := xSO cs (fun x hx => h x (by simp [hx]))
  exact ⟨n :: l,rfl⟩
theorem yAQ {a : AV} (h : Fit (.sl [.int .i64]) a) : ∃ z l,a = iw z l ∧ (z = true → l = []) := by
 obtain ⟨z,cs,rfl,hz,hl,hf⟩ := yBC h
 obtain ⟨l,rfl⟩ := xSO cs hf
 exact ⟨z,l,by rw [xAT],fun e => List.map_eq_nil_iff.1 (hz e)⟩
theorem xU6 : ∀ (rs : List (List AV)),(∀ r ∈ rs,r.length = 4) → (∀ r ∈ rs,∀ (i : Nat) (c : CS) (a : AV),([.int .i64,.int .i64,.int .u8,.int .u8] : List CS)[i]? = some c → r[i]? = some a → Fit c a) →
  ∃ l : List Ed,rs.flatten = edges l ∧ l.length = rs.length ∧ ∀ e ∈ l,e.p < 256 ∧ e.n < 256
 | [],_,_ => ⟨[],rfl,rfl,by simp⟩
 | r :: rs,hl,hf => by
  obtain ⟨l,h1,h2,h3⟩ := xU6 rs (fun r hr => hl r (by simp [hr])) (fun r hr => hf r (by simp [hr]))
  have hr := hl r (by simp)
  match r,hr with
  | [x0,x1,x2,x3],_ =>
   have hfr := hf [x0,x1,x2,x3] (by simp)
   obtain ⟨a,rfl,_⟩ := xNz (hfr 0 _ _ rfl rfl)
   obtain ⟨b,rfl,_⟩ := xNz (hfr 1 _ _ rfl rfl)
   obtain ⟨p,rfl,hp⟩ := yAL (hfr 2 _ _ rfl rfl)
   obtain ⟨n,rfl,hn⟩ := yAL (hfr 3 _ _ rfl rfl)
   refine ⟨⟨a,b,p,n⟩ :: l,?_,by simp [h2],?_⟩
   ·rw [List.flatten_cons,h1]; rfl
   ·intro e he
    rcases List.mem_cons.1 he with rfl | he
    ·exact ⟨hp,hn⟩
    ·exact h3 e he
theorem yBH {a : AV} (h : Fit (.sl [.int .i64,.int .i64,.int .u8,.int .u8]) a) : ∃ z l,a = .sl z l.length (edges l) ∧ (z = true → l = []) ∧ ∀ e ∈ l,e.p < 256 ∧ e.n < 256 := by
 cases h with
 | nil => exact ⟨true,[],rfl,fun _ => rfl,by simp⟩
 | @sl _ rs hn hl hr =>
  obtain ⟨l,h1,h2,h3⟩ := xU6 rs hl hr
  exact ⟨false,l,by rw [h1,h2],by simp,h3⟩
theorem xZX {a : AV} (h : xYH yB7 a) : ∃ n : Aut,a = n.av ∧ (n.z1 = true → n.st = []) ∧ (n.z2 = true → n.fi = []) ∧ (n.z3 = true → n.ed = []) ∧ ∀ e ∈ n.ed,e.p < 256 ∧ e.n < 256 := by
 obtain ⟨cs,rfl,h'⟩ := xX3 h
 obtain ⟨a1,cs,rfl,h1,h'⟩ := xFv h'
 obtain ⟨a2,cs,rfl,h2,h'⟩ := xFv h'
 obtain ⟨a9993,cs,rfl,h3,h'⟩ := xFv h'
 obtain ⟨a9994,cs,rfl,h4,h'⟩ := xFv h'
 obtain ⟨a9995,cs,rfl,h5,h'⟩ := xFv h'
 obtain rfl := xV2 h'
 obtain ⟨v,rfl,_⟩ := xNz h1
 obtain ⟨s,rfl,_⟩ := xNz h2
 obtain ⟨z1,st,rfl,hz1⟩ := yAQ h3
 obtain ⟨z2,fi,rfl,hz2⟩ := yAQ h4
 obtain ⟨z3,ed,rfl,hz3,hb⟩ := yBH h5
 exact ⟨⟨v,s,z1,st,z2,fi,z3,ed⟩,rfl,hz1,hz2,hz3,hb⟩
theorem xYj {a : AV} (h : xYH yB7 a) : ∃ n : Aut,a = n.av ∧ (n.z1 = true → n.st = []) ∧ (n.z2 = true → n.fi = []) ∧ ∀ e ∈ n.ed,e.p < 256 ∧ e.n < 256 := by
 obtain ⟨n,h1,h2,h3,_,h4⟩ := xZX h
 exact ⟨n,h1,h2,h3,h4⟩
theorem xU7 (z : Bool) (l : List Int) (hl : l.length < 1099511627776) (hq : ∀ q ∈ l,0 ≤ q ∧ q < 4096) : ∃ z' r,L.pcall 38 [iw z l] = some (sw z' r) ∧ CanS r (inS l) := by
 obtain ⟨T',v',r',g1,g2,g3⟩ := xVd (z := z) hl hq l.length 0 [] (.sl true 0 []) [] _ (by omega) (.inl ⟨rfl,rfl⟩) xVf
 simp only [Int.natCast_zero] at g1
 have g3' := g3.congr (T := inS l) (fun j => by simp [inS])
 rcases g2 with ⟨rfl,e⟩ | ⟨k,rfl,hk⟩
 ·refine ⟨true,[],?_,e ▸ g3'⟩
  rw [yDU,a38,xAK]
  simp (maxSteps := 30000000) (disch := first | assumption | omega | (simp only [WL,AV.isCell,xAa] <;> omega) | rfl | decide) only [↓reduceIte,WB,xAR,xAc,xAQ,xAD,xAC,AV.cells,AV.isCell,xAb,xAj,xAk,xAs,xAt,xAu,xAv,xAw,xAx,xAL,xAy,xAz,xAl,xAA,xAm,xAn,xAB,xAo,xAp,xAf,Nat.reduceDiv,Nat.reduceMod,WP,xAI,xAF,xAX,xAW,xAV,xAG,xAH,xAE,W2,xAd,xAe,xAi,Nat.reduceAdd,Nat.reduceSub,Nat.reduceLeDiff,Nat.reduceMul,Int.reduceAdd,Int.reduceSub,Int.reduceMul,Int.reduceLT,Int.reduceLE,Int.reduceEq,Int.reduceToNat,Int.reduceNeg,Nat.reduceEqDiff,Nat.reduceBEq,Nat.reduceLT,xAa,xAg,xAq,xAr,xUB,g1]
  try rfl
 ·refine ⟨false,r',?_,g3'⟩
  rw [yDU,a38,xAK]
  simp (maxSteps := 30000000) (disch := first | assumption | omega | (simp only [WL,AV.isCell,xAa] <;> omega) | rfl | decide) only [↓reduceIte,WB,xAR,xAc,xAQ,xAD,xAC,AV.cells,AV.isCell,xAb,xAj,xAk,xAs,xAt,xAu,xAv,xAw,xAx,xAL,xAy,xAz,xAl,xAA,xAm,xAn,xAB,xAo,xAp,xAf,Nat.reduceDiv,Nat.reduceMod,WP,xAI,xAF,xAX,xAW,xAV,xAG,xAH,xAE,W2,xAd,xAe,xAi,Nat.reduceAdd,Nat.reduceSub,Nat.reduceLeDiff,Nat.reduceMul,Int.reduceAdd,Int.reduceSub,Int.reduceMul,Int.reduceLT,Int.reduceLE,Int.reduceEq,Int.reduceToNat,Int.reduceNeg,Nat.reduceEqDiff,Nat.reduceBEq,Nat.reduceLT,xAa,xAg,xAq,xAr,xUB,g1,hk]
theorem yBI (v : AV) (hv : ∀ d H,frz (d + 1) H v = some v) (e : Int) (he : e ≠ 0) : L.pcall 21 [v,.int .i64 e] = some (.sl true 0 []) := by
 rw [yDP,a21,xAK]
 simp (maxSteps := 30000000) (disch := first | assumption | omega | (simp only [WL,AV.isCell,xAa] <;> omega) | rfl | decide) only [↓reduceIte,WB,xAR,xAc,xAQ,xAD,xAC,AV.cells,AV.isCell,xAb,xAj,xAk,xAs,xAt,xAu,xAv,xAw,xAx,xAL,xAy,xAz,xAl,xAA,xAm,xAn,xAB,xAo,xAp,xAf,Nat.reduceDiv,Nat.reduceMod,WP,xAI,xAF,xAX,xAW,xAV,xAG,xAH,xAE,W2,xAd,xAe,xAi,Nat.reduceAdd,Nat.reduceSub,Nat.reduceLeDiff,Nat.reduceMul,Int.reduceAdd,Int.reduceSub,Int.reduceMul,Int.reduceLT,Int.reduceLE,Int.reduceEq,Int.reduceToNat,Int.reduceNeg,Nat.reduceEqDiff,Nat.reduceBEq,Nat.reduceLT,xAa,xAg,xAq,xAr,he]
theorem yCK (z : Bool) (l : List Int) (hl : l.length < 1099511627776) (hq : ∀ q ∈ l,0 ≤ q ∧ q < 4096) : ∃ z' r,L.pcall 21 [iw z l,.int .i64 0] = some (sw z' r) ∧ CanS r (inS l) := by
 obtain ⟨z',r,h1,h2⟩ := xU7 z l hl hq
 refine ⟨z',r,?_,h2⟩
 rw [yDP,a21,xAK]
 simp (maxSteps := 30000000) (disch := first | assumption | omega | (simp only [WL,AV.isCell,xAa] <;> omega) | rfl | decide) only [↓reduceIte,WB,xAR,xAc,xAQ,xAD,xAC,AV.cells,AV.isCell,xAb,xAj,xAk,xAs,xAt,xAu,xAv,xAw,xAx,xAL,xAy,xAz,xAl,xAA,xAm,xAn,xAB,xAo,xAp,xAf,Nat.reduceDiv,Nat.reduceMod,WP,xAI,xAF,xAX,xAW,xAV,xAG,xAH,xAE,W2,xAd,xAe,xAi,Nat.reduceAdd,Nat.reduceSub,Nat.reduceLeDiff,Nat.reduceMul,Int.reduceAdd,Int.reduceSub,Int.reduceMul,Int.reduceLT,Int.reduceLE,Int.reduceEq,Int.reduceToNat,Int.reduceNeg,Nat.reduceEqDiff,Nat.reduceBEq,Nat.reduceLT,xAa,xAg,xAq,xAr,h1]
theorem xJP {l : List Nat} {z z' : Bool} {s4 : AV} {H : Heap} (hl : l.length < 1099511627776) : ∀ d i,i + d = l.length →
  L.loop xRG xZr ⟨xRH (sw z l) (sw z' l) s4 (.int .i64 (i : Nat)),H⟩ = some (.exit 0,⟨xRH (sw z l) (sw z' l) s4 (.int .i64 (l.length : Nat)),H⟩)
 | 0,i,h => by
  obtain rfl : i = l.length := by omega
  rw [yAs]
  simp (maxSteps := 30000000) (disch := first | assumption | omega | (simp only [WL,AV.isCell,xAa] <;> omega) | rfl | decide) only [↓reduceIte,WB,xAR,xAc,xAQ,xAD,xAC,AV.cells,AV.isCell,xAb,xAj,xAk,xAs,xAt,xAu,xAv,xAw,xAx,xAL,xAy,xAz,xAl,xAA,xAm,xAn,xAB,xAo,xAp,xAf,Nat.reduceDiv,Nat.reduceMod,WP,xAI,xAF,xAX,xAW,xAV,xAG,xAH,xAE,W2,xAd,xAe,xAi,Nat.reduceAdd,Nat.reduceSub,Nat.reduceLeDiff,Nat.reduceMul,Int.reduceAdd,Int.reduceSub,Int.reduceMul,Int.reduceLT,Int.reduceLE,Int.reduceEq,Int.reduceToNat,Int.reduceNeg,Nat.reduceEqDiff,Nat.reduceBEq,Nat.reduceLT,xAa,xAg,xAq,xAr,xUo,xXd]
 | d + 1,i,h => by
  have hlt : (i : Int) < (l.length : Nat) := by omega
  have ih := xJP (z := z) (z' := z') (s4 := s4) (H := H) hl d (i + 1) (by omega)
  rw [yAs]
  simp (maxSteps := 30000000) (disch := first | assumption | omega | (simp only [WL,AV.isCell,xAa] <;> omega) | rfl | decide) only [↓reduceIte,WB,xAR,xAc,xAQ,xAD,xAC,AV.cells,AV.isCell,xAb,xAj,xAk,xAs,xAt,xAu,xAv,xAw,xAx,xAL,xAy,xAz,xAl,xAA,xAm,xAn,xAB,xAo,xAp,xAf,Nat.reduceDiv,Nat.reduceMod,WP,xAI,xAF,xAX,xAW,xAV,xAG,xAH,xAE,W2,xAd,xAe,xAi,Nat.reduceAdd,Nat.reduceSub,Nat.reduceLeDiff,Nat.reduceMul,Int.reduceAdd,Int.reduceSub,Int.reduceMul,Int.reduceLT,Int.reduceLE,Int.reduceEq,Int.reduceToNat,Int.reduceNeg,Nat.reduceEqDiff,Nat.reduceBEq,Nat.reduceLT,xAa,xAg,xAq,xAr,xUo,xXd,hlt,ih]
theorem xSP (z z' : Bool) (l : List Nat) (hl : l.length < 1099511627776) : L.pcall 20 [sw z l,sw z' l] = some (.bool true) := by
 have h := fun s4 => xJP (z := z) (z' := z') (s4 := s4) (H := []) hl l.length 0 (by omega)
 simp only [Int.natCast_zero] at h
 rw [yEk,a20,xAK]
 simp (maxSteps := 30000000) (disch := first | assumption | omega | (simp only [WL,AV.isCell,xAa] <;> omega) | rfl | decide) only [↓reduceIte,WB,xAR,xAc,xAQ,xAD,xAC,AV.cells,AV.isCell,xAb,xAj,xAk,xAs,xAt,xAu,xAv,xAw,xAx,xAL,xAy,xAz,xAl,xAA,xAm,xAn,xAB,xAo,xAp,xAf,Nat.reduceDiv,Nat.reduceMod,WP,xAI,xAF,xAX,xAW,xAV,xAG,xAH,xAE,W2,xAd,xAe,xAi,Nat.reduceAdd,Nat.reduceSub,Nat.reduceLeDiff,Nat.reduceMul,Int.reduceAdd,Int.reduceSub,Int.reduceMul,Int.reduceLT,Int.reduceLE,Int.reduceEq,Int.reduceToNat,Int.reduceNeg,Nat.reduceEqDiff,Nat.reduceBEq,Nat.reduceLT,xAa,xAg,xAq,xAr,xXd,h]
abbrev cpA (n : Aut) : Aut := ⟨n.vars,n.states,n.st.length == 0,n.st,n.fi.length == 0,n.fi,n.ed.length == 0,n.ed⟩
def s77 (n : Nat) : List AV := List.replicate n (.int .u64 77)
theorem xSQ {k n : Nat} (hn : n < 1099511627776) : ∀ d i B (G : Heap),i + d = n → n ≤ B.length → G[k]? = some (.cells false false B) →
  L.loop xRJ xZs ⟨xRK (.own false k 0 n 1) (.int .i64 (i : Nat)),G⟩ = some (.exit 0,⟨xRK (.own false k 0 n 1) (.int .i64 (n : Nat)),G.set k (.cells false false (B.take i ++ s77 (n - i) ++ B.drop n))⟩)
 | 0,i,B,G,h,hB,hk => by
  obtain rfl : i = n := by omega
  have hself : G.set k (.cells false false B) = G := by
   apply List.ext_getElem?
   intro j
   rw [List.getElem?_set]
   by_cases e : k = j
   ·subst e
    rw [if_pos rfl,if_pos (List.getElem?_eq_some_iff.1 hk).1,hk]
   ·rw [if_neg e]
  have e : B.take i ++ s77 (i - i) ++ B.drop i = B := by rw [Nat.sub_self]; simp [s77]
  rw [e,hself,xXe]
  simp (maxSteps := 30000000) (disch := first | assumption | omega | (simp only [WL,AV.isCell,xAa] <;> omega) | rfl | decide) only [↓reduceIte,WB,xAR,xAc,xAQ,xAD,xAC,AV.cells,AV.isCell,xAb,xAj,xAk,xAs,xAt,xAu,xAv,xAw,xAx,xAL,xAy,xAz,xAl,xAA,xAm,xAn,xAB,xAo,xAp,xAf,Nat.reduceDiv,Nat.reduceMod,WP,xAI,xAF,xAX,xAW,xAV,xAG,xAH,xAE,W2,xAd,xAe,xAi,Nat.reduceAdd,Nat.reduceSub,Nat.reduceLeDiff,Nat.reduceMul,Int.reduceAdd,Int.reduceSub,Int.reduceMul,Int.reduceLT,Int.reduceLE,Int.reduceEq,Int.reduceToNat,Int.reduceNeg,Nat.reduceEqDiff,Nat.reduceBEq,Nat.reduceLT,xAa,xAg,xAq,xAr,xRI,xUp]
 | d + 1,i,B,G,h,hB,hk => by
  have hlt : (i : Int) < (n : Nat) := by omega
  have hkl := (List.getElem?_eq_some_iff.1 hk).1
  have hl : (B.take i ++ .int .u64 77 :: B.drop (i + 1)).length = B.length := by simp only [List.length_append,List.length_take,List.length_cons,List.length_drop]; omega
  have ih := xSQ (k := k) hn d (i + 1) (B.take i ++ .int .u64 77 :: B.drop (i + 1)) (G.set k (.cells false false (B.take i ++ .int .u64 77 :: B.drop (i + 1)))) (by omega) (by omega) (by simp [hkl])
  rw [List.set_set] at ih
  have hti : (B.take i).length = i := by rw [List.length_take]; omega
  have e : (B.take i ++ .int .u64 77 :: B.drop (i + 1)).take (i + 1) ++ s77 (n - (i + 1)) ++ (B.take i ++ .int .u64 77 :: B.drop (i + 1)).drop n = B.take i ++ s77 (n - i) ++ B.drop n := by
   have e1 : (B.take i ++ .int .u64 77 :: B.drop (i + 1)).drop n = B.drop n := by
    rw [List.drop_append,hti,List.drop_of_length_le (by omega : (B.take i).length ≤ n),List.nil_append,show n - i = (n - i - 1) + 1 by omega,List.drop_succ_cons,List.drop_drop,show i + 1 + (n - i - 1) = n by omega]
   rw [e1,List.take_append,hti,List.take_of_length_le (by omega),show i + 1 - i = 1 by omega,show n - i = (n - (i + 1)) + 1 by omega]
   simp [s77,List.replicate_succ]
  rw [e] at ih
  rw [xXe]
  simp (maxSteps := 30000000) (disch := first | assumption | omega | (simp only [WL,AV.isCell,xAa] <;> omega) | rfl | decide) only [↓reduceIte,WB,xAR,xAc,xAQ,xAD,xAC,AV.cells,AV.isCell,xAb,xAj,xAk,xAs,xAt,xAu,xAv,xAw,xAx,xAL,xAy,xAz,xAl,xAA,xAm,xAn,xAB,xAo,xAp,xAf,Nat.reduceDiv,Nat.reduceMod,WP,xAI,xAF,xAX,xAW,xAV,xAG,xAH,xAE,W2,xAd,xAe,xAi,Nat.reduceAdd,Nat.reduceSub,Nat.reduceLeDiff,Nat.reduceMul,Int.reduceAdd,Int.reduceSub,Int.reduceMul,Int.reduceLT,Int.reduceLE,Int.reduceEq,Int.reduceToNat,Int.reduceNeg,Nat.reduceEqDiff,Nat.reduceBEq,Nat.reduceLT,xAa,xAg,xAq,xAr,xRI,xUp,hlt,hk,ih]
noncomputable def ovK (k n : Nat) (H : Heap) : Option Blk → Option (AV × Heap)
 | some (.cells false false B) => if n ≤ B.length ∧ n < 1099511627776 then some (.tup [],H.set k (.cells false false (s77 n ++ B.drop n))) else L.icall (.func 23 []) [.own false k 0 n 1] H
 | _ => L.icall (.func 23 []) [.own false k 0 n 1] H
theorem xZY (k n : Nat) (H : Heap) : L.icall (.func 23 []) [.own false k 0 n 1] H = ovK k n H H[k]? := by
 unfold ovK
 split
 ·rename_i B hb
  split
  ·rename_i hc
   have h := xSQ (k := k) hc.2 n 0 B H (by omega) hc.1 hb
   simp only [Int.natCast_zero,List.take_zero,List.nil_append,Nat.sub_zero] at h
   rw [yDQ,a23]
   simp (maxSteps := 30000000) (disch := first | assumption | omega | (simp only [WL,AV.isCell,xAa] <;> omega) | rfl | decide) only [↓reduceIte,WB,xAR,xAc,xAQ,xAD,xAC,AV.cells,AV.isCell,xAb,xAj,xAk,xAs,xAt,xAu,xAv,xAw,xAx,xAL,xAy,xAz,xAl,xAA,xAm,xAn,xAB,xAo,xAp,xAf,Nat.reduceDiv,Nat.reduceMod,WP,xAI,xAF,xAX,xAW,xAV,xAG,xAH,xAE,W2,xAd,xAe,xAi,Nat.reduceAdd,Nat.reduceSub,Nat.reduceLeDiff,Nat.reduceMul,Int.reduceAdd,Int.reduceSub,Int.reduceMul,Int.reduceLT,Int.reduceLE,Int.reduceEq,Int.reduceToNat,Int.reduceNeg,Nat.reduceEqDiff,Nat.reduceBEq,Nat.reduceLT,xAa,xAg,xAq,xAr,xUp,h]
  ·rfl
 ·rfl
theorem xZZ {k n : Nat} {H : Heap} {B : List AV} (h1 : n ≤ B.length) (h2 : n < 1099511627776) : ovK k n H (some (.cells false false B)) = some (.tup [],H.set k (.cells false false (s77 n ++ B.drop n))) := by
 unfold ovK
 exact if_pos ⟨h1,h2⟩
theorem xZ0 (H : Heap) : L.icall (.func 23 []) [.sl true 0 []] H = some (.tup [],H) := by
 rw [yDQ,a23]
 simp (maxSteps := 30000000) (disch := first | assumption | omega | (simp only [WL,AV.isCell,xAa] <;> omega) | rfl | decide) only [↓reduceIte,WB,xAR,xAc,xAQ,xAD,xAC,AV.cells,AV.isCell,xAb,xAj,xAk,xAs,xAt,xAu,xAv,xAw,xAx,xAL,xAy,xAz,xAl,xAA,xAm,xAn,xAB,xAo,xAp,xAf,Nat.reduceDiv,Nat.reduceMod,WP,xAI,xAF,xAX,xAW,xAV,xAG,xAH,xAE,W2,xAd,xAe,xAi,Nat.reduceAdd,Nat.reduceSub,Nat.reduceLeDiff,Nat.reduceMul,Int.reduceAdd,Int.reduceSub,Int.reduceMul,Int.reduceLT,Int.reduceLE,Int.reduceEq,Int.reduceToNat,Int.reduceNeg,Nat.reduceEqDiff,Nat.reduceBEq,Nat.reduceLT,xAa,xAg,xAq,xAr,xUp,xXe,xRI]
def OwF (G : Heap) (v : AV) (w n : Nat) (cs : List AV) : Prop := (v = .sl true 0 [] ∧ n = 0 ∧ cs = []) ∨ ∃ k,v = .own false k 0 n w ∧ G[k]? = some (.cells false false cs) ∧ cs.length = n * w
theorem OwF.app {G : Heap} {v : AV} {w n : Nat} {cs : List AV} (h : OwF G v w n cs) (X : Heap) : OwF (G ++ X) v w n cs := by
 rcases h with h | ⟨k,h1,h2,h3⟩
 ·exact .inl h
 ·exact .inr ⟨k,h1,xBh h2,h3⟩
theorem OwF.cell {G : Heap} {v : AV} {w n : Nat} {cs : List AV} (h : OwF G v w n cs) : v.isCell = true := by
 rcases h with ⟨rfl,_⟩ | ⟨k,rfl,_⟩ <;> rfl
theorem OwF.frzL {G : Heap} {v : AV} {w n : Nat} {cs : List AV} (h : OwF G v w n cs) (hf : ∀ d H,cs.mapM (frz d H) = some cs) : ∃ z,(z = true → n = 0) ∧ ∀ d,frz (d + 1) G v = some (.sl z n cs) := by
 rcases h with ⟨rfl,rfl,rfl⟩ | ⟨k,rfl,e,e3⟩
 ·exact ⟨true,fun _ => rfl,fun d => rfl⟩
 ·refine ⟨false,(fun h => (by cases h)),fun d => ?_⟩
  have hle : 0 + n * w ≤ cs.length := by omega
  have hcut : List.take (n * w) cs = cs := List.take_of_length_le (by omega)
  simp only [frz,e,if_pos hle,List.drop_zero,hcut,hf,Option.map_some]
def OwA (G : Heap) (v : AV) (a s : Int) (st fi : List Int) (ed : List Ed) : Prop := ∃ f1 f2 f3,v = .agg [.int .i64 a,.int .i64 s,f1,f2,f3] ∧ OwF G f1 1 st.length (xBd st) ∧ OwF G f2 1 fi.length (xBd fi) ∧ OwF G f3 4 ed.length (edges ed)
theorem yC4 (z : Bool) (l : List Int) (hl : l.length < 1099511627776) (hz : z = true → l = []) : ∃ v B,xBw L 48 [iw z l] = some (v,B) ∧ ((v = .sl true 0 [] ∧ B = [] ∧ l = []) ∨ (v = .own false 0 0 l.length 1 ∧ B = [.cells false false (xBd l)])) := by
 cases z with
 | true =>
  obtain rfl := hz rfl
  exact ⟨.sl true 0 [],[],(xPR [] (by simp)).2,.inl ⟨rfl,rfl,rfl⟩⟩
 | false => exact ⟨.own false 0 0 l.length 1,[.cells false false (xBd l)],(xPR l hl).1,.inr ⟨rfl,rfl⟩⟩
theorem OwnEG.owF {G : Heap} {v : AV} {l : List Ed} (h : OwnEG G v l) : OwF G v 4 l.length (edges l) := by
 rcases h with ⟨rfl,rfl⟩ | ⟨k,h1,h2⟩
 ·exact .inl ⟨rfl,rfl,rfl⟩
 ·exact .inr ⟨k,h1,h2,xAa l⟩
theorem xU8 {l : List Int} {a b x y z : AV} (hx : ∀ k n,x ≠ AV.int k n) : xBd l ≠ [a,b,x,y,z] := by
 intro h
 have : x ∈ xBd l := by rw [h]; simp
 obtain ⟨n,-,hn⟩ := List.mem_map.1 this
 exact hx _ _ hn.symm
theorem xMx {n : Aut} {f1 f2 : AV} {G0 : Heap} {p : Nat} (hx : ∀ k m,f1 ≠ AV.int k m) (hp : G0[p]? = some (.cells false false [.int .i64 n.vars,.int .i64 n.states,f1,f2,.sl true 0 []])) (h1 : G0[1]? = some (.cells false false [.int .i64 0,.int .i64 0,.sl true 0 [],.sl true 0 [],.sl true 0 []])) (hp1 : p ≠ 1)
  (l3 : n.ed.length < 1000000) (o1 : OwF G0 f1 1 n.fi.length (xBd n.fi)) (o2 : OwF G0 f2 1 n.st.length (xBd n.st)) :
  ∃ ev G',L.loop xNc xVP ⟨xL3 (.ptr 1 0) (.ptr p 0) (.sl n.z3 n.ed.length (edges n.ed)) (.int .i64 (n.ed.length : Nat)) (.int .i64 0),G0⟩ =
   some (.exit 0,⟨xL3 (.ptr 1 0) (.ptr p 0) (.sl n.z3 n.ed.length (edges n.ed)) (.int .i64 (n.ed.length : Nat)) (.int .i64 (n.ed.length : Nat)),G'⟩) ∧
   G'[p]? = some (.cells false false [.int .i64 n.vars,.int .i64 n.states,f1,f2,ev]) ∧ G'[1]? = some (.cells false false [.int .i64 0,.int .i64 0,.sl true 0 [],.sl true 0 [],.sl true 0 []]) ∧ ev.isCell = true ∧
   OwF (G'.set 1 (.cells false false [.int .i64 n.vars,.int .i64 n.states,f1,f2,ev])) f1 1 n.fi.length (xBd n.fi) ∧ OwF (G'.set 1 (.cells false false [.int .i64 n.vars,.int .i64 n.states,f1,f2,ev])) f2 1 n.st.length (xBd n.st) ∧ OwF (G'.set 1 (.cells false false [.int .i64 n.vars,.int .i64 n.states,f1,f2,ev])) ev 4 (n.ed.map xBl).length (edges (n.ed.map xBl)) := by
 have l1 := (List.getElem?_eq_some_iff.1 h1).1
 obtain ⟨ev,G',q1,q2,q3,q4⟩ := xQD (n := n) (p := p) (v := n.vars) (s := n.states) (f1 := f1) (f2 := f2) o1.cell o2.cell hx l3 n.ed.length 0 (.sl true 0 []) G0 (by omega) hp (.inl ⟨rfl,rfl⟩)
 have nx : ∀ k m,(AV.sl true 0 []) ≠ AV.int k m := fun k m h => by cases h
 have e1 : G'[1]? = some (.cells false false [.int .i64 0,.int .i64 0,.sl true 0 [],.sl true 0 [],.sl true 0 []]) := by rw [q4 1 l1 (fun h => hp1 h.symm) (fun m h => by cases h)]; exact h1
 have keep : ∀ {v : AV} {m : Nat} {l : List Int},OwF G0 v 1 m (xBd l) → OwF (G'.set 1 (.cells false false [.int .i64 n.vars,.int .i64 n.states,f1,f2,ev])) v 1 m (xBd l) := by
  intro v m l h
  rcases h with h | ⟨k,g1,g2,g3⟩
  ·exact .inl h
  ·have k1 : k ≠ 1 := by
    rintro rfl
    rw [h1] at g2
    injection g2 with g2
    injection g2 with _ _ g2
    exact xU8 nx g2.symm
   have kp : k ≠ p := by
    rintro rfl
    rw [hp] at g2
    injection g2 with g2
    injection g2 with _ _ g2
    exact xU8 hx g2.symm
   refine .inr ⟨k,g1,?_,g3⟩
   rw [List.getElem?_set_ne (fun h => k1 h.symm),q4 k (List.getElem?_eq_some_iff.1 g2).1 kp (fun m h => by cases h)]
   exact g2
 have o3 : OwF (G'.set 1 (.cells false false [.int .i64 n.vars,.int .i64 n.states,f1,f2,ev])) ev 4 (n.ed.map xBl).length (edges (n.ed.map xBl)) := by
  rcases q3.owF with h | ⟨k,g1,g2,g3⟩
  ·exact .inl h
  ·have k1 : k ≠ 1 := by
    rintro rfl
    rw [e1] at g2
    injection g2 with g2
    injection g2 with _ _ g2
    exact xSX nx g2.symm
   exact .inr ⟨k,g1,by rw [List.getElem?_set_ne (fun h => k1 h.symm)]; exact g2,g3⟩
 have q1' : L.loop xNc xVP ⟨xL3 (.ptr 1 0) (.ptr p 0) (.sl n.z3 n.ed.length (edges n.ed)) (.int .i64 (n.ed.length : Nat)) (.int .i64 0),G0⟩ = _ := q1
 exact ⟨ev,G',q1',q2,e1,o3.cell,keep o1,keep o2,o3⟩
set_option maxHeartbeats 4000000 in
theorem xYk (n : Aut) (hf : Fits n) (l3 : n.ed.length < 1000000) (z1 : n.z1 = true → n.st = []) (z2 : n.z2 = true → n.fi = []) (h0 : L.pcall 26 [n.av] = some (.int .i64 0)) :
  (∃ v G,L.icall (.func 18 []) [n.av] [] = some (.tup [v,.int .i64 0],G) ∧ OwA G v n.vars n.states n.fi n.st (n.ed.map xBl)) ∧
  ∃ y1 y2 y3,L.pcall 18 [n.av] = some (.tup [(Aut.mk n.vars n.states y1 n.fi y2 n.st y3 (n.ed.map xBl)).av,.int .i64 0]) ∧ (y1 = true → n.fi = []) ∧ (y2 = true → n.st = []) := by
 obtain ⟨v1,B1,g1,k1⟩ := yC4 n.z2 n.fi hf.l2 z2
 obtain ⟨v2,B2,g2,k2⟩ := yC4 n.z1 n.st hf.l1 z1
 have nil : ∀ {l : List Int} {G : Heap},l = [] → OwF G (.sl true 0 []) 1 l.length (xBd l) := fun h => .inl ⟨rfl,by rw [h]; rfl,by rw [h]; rfl⟩
 have own : ∀ {l : List Int} {G : Heap} {k : Nat},G[k]? = some (.cells false false (xBd l)) → OwF G (.own false k 0 l.length 1) 1 l.length (xBd l) := fun h => .inr ⟨_,rfl,h,by rw [xAT]; omega⟩
 have fin : ∀ {f1 f2 ev : AV} {GF : Heap},OwF GF f1 1 n.fi.length (xBd n.fi) → OwF GF f2 1 n.st.length (xBd n.st) → OwF GF ev 4 (n.ed.map xBl).length (edges (n.ed.map xBl)) →
   ∃ y1 y2 y3,(y1 = true → n.fi = []) ∧ (y2 = true → n.st = []) ∧ (∀ d,frz (d + 1) GF f1 = some (iw y1 n.fi)) ∧ (∀ d,frz (d + 1) GF f2 = some (iw y2 n.st)) ∧ ∀ d,frz (d + 1) GF ev = some (.sl y3 (n.ed.map xBl).length (edges (n.ed.map xBl))) := by
  intro f1 f2 ev GF a1 a2 a3
  obtain ⟨y1,b1,c1⟩ := a1.frzL (fun d H => xBA d H _)
  obtain ⟨y2,b2,c2⟩ := a2.frzL (fun d H => xBA d H _)
  obtain ⟨y3,b3,c3⟩ := a3.frzL (fun d H => xAq d H _)
  exact ⟨y1,y2,y3,fun h => List.length_eq_zero_iff.1 (b1 h),fun h => List.length_eq_zero_iff.1 (b2 h),c1,c2,c3⟩
 rcases k1 with ⟨rfl,rfl,e1⟩ | ⟨rfl,rfl⟩ <;> rcases k2 with ⟨rfl,rfl,e2⟩ | ⟨rfl,rfl⟩
 ·obtain ⟨ev,G',q1,q2,q3,qc,o1,o2,o3⟩ := xMx (n := n) (f1 := .sl true 0 []) (f2 := .sl true 0 []) (G0 := [.cells false false n.cells,.cells false false [.int .i64 0,.int .i64 0,.sl true 0 [],.sl true 0 [],.sl true 0 []],.cells false false [.int .i64 n.vars,.int .i64 n.states,.sl true 0 [],.sl true 0 [],.sl true 0 []]]) (p := 2) (by intro k m h; cases h) rfl rfl (by decide) l3 (nil e1) (nil e2)
  obtain ⟨y1,y2,y3,d1,d2,c1,c2,c3⟩ := fin o1 o2 o3
  have lq := (List.getElem?_eq_some_iff.1 q3).1
  have hall : ([.int .i64 n.vars,.int .i64 n.states,.sl true 0 [],.sl true 0 [],ev] : List AV).all AV.isCell = true := by simp only [List.all_cons,List.all_nil,qc]; rfl
  have xCm : (G'.set 1 (.cells false false [.int .i64 n.vars,.int .i64 n.states,.sl true 0 [],.sl true 0 [],ev]))[1]? = some (.cells false false [.int .i64 n.vars,.int .i64 n.states,.sl true 0 [],.sl true 0 [],ev]) := by rw [List.getElem?_set_self lq]
  refine ⟨⟨_,_,?_,_,_,_,rfl,o1,o2,o3⟩,true,true,y3,?_,fun _ => e1,fun _ => e2⟩
  ·rw [yCv,a18,xA3]
   simp (maxSteps := 30000000) (disch := first | assumption | omega | (simp only [WL,AV.isCell,xAa] <;> omega) | rfl | decide) only [↓reduceIte,WB,xAR,xAc,xAQ,xAD,xAC,AV.cells,AV.isCell,xAb,xAj,xAk,xAs,xAt,xAu,xAv,xAw,xAx,xAL,xAy,xAz,xAl,xAA,xAm,xAn,xAB,xAo,xAp,xAf,Nat.reduceDiv,Nat.reduceMod,WP,xAI,xAF,xAX,xAW,xAV,xAG,xAH,xAE,W2,xAd,xAe,xAi,Nat.reduceAdd,Nat.reduceSub,Nat.reduceLeDiff,Nat.reduceMul,Int.reduceAdd,Int.reduceSub,Int.reduceMul,Int.reduceLT,Int.reduceLE,Int.reduceEq,Int.reduceToNat,Int.reduceNeg,Nat.reduceEqDiff,Nat.reduceBEq,Nat.reduceLT,xAa,xAg,xAO,xAq,xAr,xAM,h0,g1,g2,xH6,q1,q2,q3,qc,xCm]
  ·rw [yCu,a18,xAK]
   simp (maxSteps := 30000000) (disch := first | assumption | omega | (simp only [WL,AV.isCell,xAa] <;> omega) | rfl | decide) only [↓reduceIte,WB,xAR,xAc,xAQ,xAD,xAC,AV.cells,AV.isCell,xAb,xAj,xAk,xAs,xAt,xAu,xAv,xAw,xAx,xAL,xAy,xAz,xAl,xAA,xAm,xAn,xAB,xAo,xAp,xAf,Nat.reduceDiv,Nat.reduceMod,WP,xAI,xAF,xAX,xAW,xAV,xAG,xAH,xAE,W2,xAd,xAe,xAi,Nat.reduceAdd,Nat.reduceSub,Nat.reduceLeDiff,Nat.reduceMul,Int.reduceAdd,Int.reduceSub,Int.reduceMul,Int.reduceLT,Int.reduceLE,Int.reduceEq,Int.reduceToNat,Int.reduceNeg,Nat.reduceEqDiff,Nat.reduceBEq,Nat.reduceLT,xAa,xAg,xAO,xAq,xAr,xAM,h0,g1,g2,xH6,q1,q2,q3,qc,xCm,c3]
   rw [e1,e2]
   rfl
 ·obtain ⟨ev,G',q1,q2,q3,qc,o1,o2,o3⟩ := xMx (n := n) (f1 := .sl true 0 []) (f2 := .own false 2 0 n.st.length 1) (G0 := [.cells false false n.cells,.cells false false [.int .i64 0,.int .i64 0,.sl true 0 [],.sl true 0 [],.sl true 0 []],.cells false false (xBd n.st),.cells false false [.int .i64 n.vars,.int .i64 n.states,.sl true 0 [],.own false 2 0 n.st.length 1,.sl true 0 []]]) (p := 3) (by intro k m h; cases h) rfl rfl (by decide) l3 (nil e1) (own rfl)
  obtain ⟨y1,y2,y3,d1,d2,c1,c2,c3⟩ := fin o1 o2 o3
  have lq := (List.getElem?_eq_some_iff.1 q3).1
  have hall : ([.int .i64 n.vars,.int .i64 n.states,.sl true 0 [],.own false 2 0 n.st.length 1,ev] : List AV).all AV.isCell = true := by simp only [List.all_cons,List.all_nil,qc]; rfl
  have xCm : (G'.set 1 (.cells false false [.int .i64 n.vars,.int .i64 n.states,.sl true 0 [],.own false 2 0 n.st.length 1,ev]))[1]? = some (.cells false false [.int .i64 n.vars,.int .i64 n.states,.sl true 0 [],.own false 2 0 n.st.length 1,ev]) := by rw [List.getElem?_set_self lq]
  refine ⟨⟨_,_,?_,_,_,_,rfl,o1,o2,o3⟩,y1,y2,y3,?_,d1,d2⟩
  ·rw [yCv,a18,xA3]
   simp (maxSteps := 30000000) (disch := first | assumption | omega | (simp only [WL,AV.isCell,xAa] <;> omega) | rfl | decide) only [↓reduceIte,WB,xAR,xAc,xAQ,xAD,xAC,AV.cells,AV.isCell,xAb,xAj,xAk,xAs,xAt,xAu,xAv,xAw,xAx,xAL,xAy,xAz,xAl,xAA,xAm,xAn,xAB,xAo,xAp,xAf,Nat.reduceDiv,Nat.reduceMod,WP,xAI,xAF,xAX,xAW,xAV,xAG,xAH,xAE,W2,xAd,xAe,xAi,Nat.reduceAdd,Nat.reduceSub,Nat.reduceLeDiff,Nat.reduceMul,Int.reduceAdd,Int.reduceSub,Int.reduceMul,Int.reduceLT,Int.reduceLE,Int.reduceEq,Int.reduceToNat,Int.reduceNeg,Nat.reduceEqDiff,Nat.reduceBEq,Nat.reduceLT,xAa,xAg,xAO,xAq,xAr,xAM,h0,g1,g2,xH6,q1,q2,q3,qc,xCm]
  ·rw [yCu,a18,xAK]
   simp (maxSteps := 30000000) (disch := first | assumption | omega | (simp only [WL,AV.isCell,xAa] <;> omega) | rfl | decide) only [↓reduceIte,WB,xAR,xAc,xAQ,xAD,xAC,AV.cells,AV.isCell,xAb,xAj,xAk,xAs,xAt,xAu,xAv,xAw,xAx,xAL,xAy,xAz,xAl,xAA,xAm,xAn,xAB,xAo,xAp,xAf,Nat.reduceDiv,Nat.reduceMod,WP,xAI,xAF,xAX,xAW,xAV,xAG,xAH,xAE,W2,xAd,xAe,xAi,Nat.reduceAdd,Nat.reduceSub,Nat.reduceLeDiff,Nat.reduceMul,Int.reduceAdd,Int.reduceSub,Int.reduceMul,Int.reduceLT,Int.reduceLE,Int.reduceEq,Int.reduceToNat,Int.reduceNeg,Nat.reduceEqDiff,Nat.reduceBEq,Nat.reduceLT,xAa,xAg,xAO,xAq,xAr,xAM,h0,g1,g2,xH6,q1,q2,q3,qc,xCm,c1,c2,c3]
 ·obtain ⟨ev,G',q1,q2,q3,qc,o1,o2,o3⟩ := xMx (n := n) (f1 := .own false 2 0 n.fi.length 1) (f2 := .sl true 0 []) (G0 := [.cells false false n.cells,.cells false false [.int .i64 0,.int .i64 0,.sl true 0 [],.sl true 0 [],.sl true 0 []],.cells false false (xBd n.fi),.cells false false [.int .i64 n.vars,.int .i64 n.states,.own false 2 0 n.fi.length 1,.sl true 0 [],.sl true 0 []]]) (p := 3) (by intro k m h; cases h) rfl rfl (by decide) l3 (own rfl) (nil e2)
  obtain ⟨y1,y2,y3,d1,d2,c1,c2,c3⟩ := fin o1 o2 o3
  have lq := (List.getElem?_eq_some_iff.1 q3).1
  have hall : ([.int .i64 n.vars,.int .i64 n.states,.own false 2 0 n.fi.length 1,.sl true 0 [],ev] : List AV).all AV.isCell = true := by simp only [List.all_cons,List.all_nil,qc]; rfl
  have xCm : (G'.set 1 (.cells false false [.int .i64 n.vars,.int .i64 n.states,.own false 2 0 n.fi.length 1,.sl true 0 [],ev]))[1]? = some (.cells false false [.int .i64 n.vars,.int .i64 n.states,.own false 2 0 n.fi.length 1,.sl true 0 [],ev]) := by rw [List.getElem?_set_self lq]
  refine ⟨⟨_,_,?_,_,_,_,rfl,o1,o2,o3⟩,y1,y2,y3,?_,d1,d2⟩
  ·rw [yCv,a18,xA3]
   simp (maxSteps := 30000000) (disch := first | assumption | omega | (simp only [WL,AV.isCell,xAa] <;> omega) | rfl | decide) only [↓reduceIte,WB,xAR,xAc,xAQ,xAD,xAC,AV.cells,AV.isCell,xAb,xAj,xAk,xAs,xAt,xAu,xAv,xAw,xAx,xAL,xAy,xAz,xAl,xAA,xAm,xAn,xAB,xAo,xAp,xAf,Nat.reduceDiv,Nat.reduceMod,WP,xAI,xAF,xAX,xAW,xAV,xAG,xAH,xAE,W2,xAd,xAe,xAi,Nat.reduceAdd,Nat.reduceSub,Nat.reduceLeDiff,Nat.reduceMul,Int.reduceAdd,Int.reduceSub,Int.reduceMul,Int.reduceLT,Int.reduceLE,Int.reduceEq,Int.reduceToNat,Int.reduceNeg,Nat.reduceEqDiff,Nat.reduceBEq,Nat.reduceLT,xAa,xAg,xAO,xAq,xAr,xAM,h0,g1,g2,xH6,q1,q2,q3,qc,xCm]
  ·rw [yCu,a18,xAK]
   simp (maxSteps := 30000000) (disch := first | assumption | omega | (simp only [WL,AV.isCell,xAa] <;> omega) | rfl | decide) only [↓reduceIte,WB,xAR,xAc,xAQ,xAD,xAC,AV.cells,AV.isCell,xAb,xAj,xAk,xAs,xAt,xAu,xAv,xAw,xAx,xAL,xAy,xAz,xAl,xAA,xAm,xAn,xAB,xAo,xAp,xAf,Nat.reduceDiv,Nat.reduceMod,WP,xAI,xAF,xAX,xAW,xAV,xAG,xAH,xAE,W2,xAd,xAe,xAi,Nat.reduceAdd,Nat.reduceSub,Nat.reduceLeDiff,Nat.reduceMul,Int.reduceAdd,Int.reduceSub,Int.reduceMul,Int.reduceLT,Int.reduceLE,Int.reduceEq,Int.reduceToNat,Int.reduceNeg,Nat.reduceEqDiff,Nat.reduceBEq,Nat.reduceLT,xAa,xAg,xAO,xAq,xAr,xAM,h0,g1,g2,xH6,q1,q2,q3,qc,xCm,c1,c2,c3]
 ·obtain ⟨ev,G',q1,q2,q3,qc,o1,o2,o3⟩ := xMx (n := n) (f1 := .own false 2 0 n.fi.length 1) (f2 := .own false 3 0 n.st.length 1) (G0 := [.cells false false n.cells,.cells false false [.int .i64 0,.int .i64 0,.sl true 0 [],.sl true 0 [],.sl true 0 []],.cells false false (xBd n.fi),.cells false false (xBd n.st),.cells false false [.int .i64 n.vars,.int .i64 n.states,.own false 2 0 n.fi.length 1,.own false 3 0 n.st.length 1,.sl true 0 []]]) (p := 4) (by intro k m h; cases h) rfl rfl (by decide) l3 (own rfl) (own rfl)
  obtain ⟨y1,y2,y3,d1,d2,c1,c2,c3⟩ := fin o1 o2 o3
  have lq := (List.getElem?_eq_some_iff.1 q3).1
  have hall : ([.int .i64 n.vars,.int .i64 n.states,.own false 2 0 n.fi.length 1,.own false 3 0 n.st.length 1,ev] : List AV).all AV.isCell = true := by simp only [List.all_cons,List.all_nil,qc]; rfl
  have xCm : (G'.set 1 (.cells false false [.int .i64 n.vars,.int .i64 n.states,.own false 2 0 n.fi.length 1,.own false 3 0 n.st.length 1,ev]))[1]? = some (.cells false false [.int .i64 n.vars,.int .i64 n.states,.own false 2 0 n.fi.length 1,.own false 3 0 n.st.length 1,ev]) := by rw [List.getElem?_set_self lq]
  refine ⟨⟨_,_,?_,_,_,_,rfl,o1,o2,o3⟩,y1,y2,y3,?_,d1,d2⟩
  ·rw [yCv,a18,xA3]
   simp (maxSteps := 30000000) (disch := first | assumption | omega | (simp only [WL,AV.isCell,xAa] <;> omega) | rfl | decide) only [↓reduceIte,WB,xAR,xAc,xAQ,xAD,xAC,AV.cells,AV.isCell,xAb,xAj,xAk,xAs,xAt,xAu,xAv,xAw,xAx,xAL,xAy,xAz,xAl,xAA,xAm,xAn,xAB,xAo,xAp,xAf,Nat.reduceDiv,Nat.reduceMod,WP,xAI,xAF,xAX,xAW,xAV,xAG,xAH,xAE,W2,xAd,xAe,xAi,Nat.reduceAdd,Nat.reduceSub,Nat.reduceLeDiff,Nat.reduceMul,Int.reduceAdd,Int.reduceSub,Int.reduceMul,Int.reduceLT,Int.reduceLE,Int.reduceEq,Int.reduceToNat,Int.reduceNeg,Nat.reduceEqDiff,Nat.reduceBEq,Nat.reduceLT,xAa,xAg,xAO,xAq,xAr,xAM,h0,g1,g2,xH6,q1,q2,q3,qc,xCm]
  ·rw [yCu,a18,xAK]
   simp (maxSteps := 30000000) (disch := first | assumption | omega | (simp only [WL,AV.isCell,xAa] <;> omega) | rfl | decide) only [↓reduceIte,WB,xAR,xAc,xAQ,xAD,xAC,AV.cells,AV.isCell,xAb,xAj,xAk,xAs,xAt,xAu,xAv,xAw,xAx,xAL,xAy,xAz,xAl,xAA,xAm,xAn,xAB,xAo,xAp,xAf,Nat.reduceDiv,Nat.reduceMod,WP,xAI,xAF,xAX,xAW,xAV,xAG,xAH,xAE,W2,xAd,xAe,xAi,Nat.reduceAdd,Nat.reduceSub,Nat.reduceLeDiff,Nat.reduceMul,Int.reduceAdd,Int.reduceSub,Int.reduceMul,Int.reduceLT,Int.reduceLE,Int.reduceEq,Int.reduceToNat,Int.reduceNeg,Nat.reduceEqDiff,Nat.reduceBEq,Nat.reduceLT,xAa,xAg,xAO,xAq,xAr,xAM,h0,g1,g2,xH6,q1,q2,q3,qc,xCm,c1,c2,c3]
abbrev xJF : AV := .agg [.int .i64 0,.int .i64 0,.sl true 0 [],.sl true 0 [],.sl true 0 []]
theorem xZ1 {n : Aut} {e : Int} (he : e ≠ 0) (h0 : L.pcall 26 [n.av] = some (.int .i64 e)) : ∃ G,L.icall (.func 18 []) [n.av] [] = some (.tup [xJF,.int .i64 e],G) := by
 refine ⟨[.cells false false n.cells,.cells false false [.int .i64 0,.int .i64 0,.sl true 0 [],.sl true 0 [],.sl true 0 []]],?_⟩
 rw [yCv,a18,xA3]
 simp (maxSteps := 30000000) (disch := first | assumption | omega | (simp only [WL,AV.isCell,xAa] <;> omega) | rfl | decide) only [↓reduceIte,WB,xAR,xAc,xAQ,xAD,xAC,AV.cells,AV.isCell,xAb,xAj,xAk,xAs,xAt,xAu,xAv,xAw,xAx,xAL,xAy,xAz,xAl,xAA,xAm,xAn,xAB,xAo,xAp,xAf,Nat.reduceDiv,Nat.reduceMod,WP,xAI,xAF,xAX,xAW,xAV,xAG,xAH,xAE,W2,xAd,xAe,xAi,Nat.reduceAdd,Nat.reduceSub,Nat.reduceLeDiff,Nat.reduceMul,Int.reduceAdd,Int.reduceSub,Int.reduceMul,Int.reduceLT,Int.reduceLE,Int.reduceEq,Int.reduceToNat,Int.reduceNeg,Nat.reduceEqDiff,Nat.reduceBEq,Nat.reduceLT,xAa,xAg,xAO,xAq,xAr,xAM,h0,he]
theorem xZ2 {n : Aut} {e : Int} (he : e ≠ 0) (h0 : L.pcall 26 [n.av] = some (.int .i64 e)) : L.pcall 18 [n.av] = some (.tup [xJF,.int .i64 e]) := by
 rw [yCu,a18,xAK]
 simp (maxSteps := 30000000) (disch := first | assumption | omega | (simp only [WL,AV.isCell,xAa] <;> omega) | rfl | decide) only [↓reduceIte,WB,xAR,xAc,xAQ,xAD,xAC,AV.cells,AV.isCell,xAb,xAj,xAk,xAs,xAt,xAu,xAv,xAw,xAx,xAL,xAy,xAz,xAl,xAA,xAm,xAn,xAB,xAo,xAp,xAf,Nat.reduceDiv,Nat.reduceMod,WP,xAI,xAF,xAX,xAW,xAV,xAG,xAH,xAE,W2,xAd,xAe,xAi,Nat.reduceAdd,Nat.reduceSub,Nat.reduceLeDiff,Nat.reduceMul,Int.reduceAdd,Int.reduceSub,Int.reduceMul,Int.reduceLT,Int.reduceLE,Int.reduceEq,Int.reduceToNat,Int.reduceNeg,Nat.reduceEqDiff,Nat.reduceBEq,Nat.reduceLT,xAa,xAg,xAO,xAq,xAr,xAM,h0,he]
def yBJ (n : Aut) (y1 y2 y3 : Bool) : Aut := ⟨n.vars,n.states,y1,n.fi,y2,n.st,y3,n.ed.map xBl⟩
theorem xZ3 (s : Int) (v : Nat) (e : Ed) : xHA s v (xBl e) = xHA s v e := by
 unfold xHA xBl
 simp only [Int.min_comm e.b e.a,Int.max_comm e.b e.a]
theorem xU9 {s : Int} {v : Nat} : ∀ {l : List Ed},(∀ e ∈ l,xHA s v e = 0) → xCW s v l = 0
 | [],_ => rfl
 | e :: l,h => by
  rw [xKv (h e List.mem_cons_self)]
  exact xU9 fun f hf => h f (List.mem_cons_of_mem _ hf)
theorem xV5 {n : Aut} (h : Valid n) (y1 y2 y3 : Bool) : Valid (yBJ n y1 y2 y3) where
 v0 := h.v0
 v6 := h.v6
 s0 := h.s0
 s64 := h.s64
 el := by show (n.ed.map xBl).length ≤ 512; rw [List.length_map]; exact h.el
 st := h.fi
 fi := h.st
 ed := by
  refine xU9 fun e he => ?_
  obtain ⟨f,hf,rfl⟩ := List.mem_map.1 he
  rw [xZ3]
  exact xS1 h.ed f hf
theorem xSR {n : Aut} (h : Fits n) (y1 y2 y3 : Bool) : Fits (yBJ n y1 y2 y3) where
 l1 := h.l2
 l2 := h.l1
 l3 := by show (n.ed.map xBl).length < _; rw [List.length_map]; exact h.l3
 by_ := by
  intro e he
  obtain ⟨f,hf,rfl⟩ := List.mem_map.1 he
  exact h.by_ f hf
theorem xVa (n : Aut) (hf : Fits n) (z1 : n.z1 = true → n.st = []) (z2 : n.z2 = true → n.fi = []) : ∃ u B r,xBw L 16 [n.av] = some (.tup [u,.int .i64 (xHc n)],B) ∧ OwnS u B r ∧ (xHc n = 0 → ∃ C,CanS r C ∧ ReaL n.fi (n.ed.map xBl) C) ∧ (xHc n ≠ 0 → r = []) ∧ ∃ z,L.pcall 16 [n.av] = some (.tup [sw z r,.int .i64 (xHc n)]) := by
 obtain ⟨h1,h2⟩ := xB7 n hf
 by_cases he : xHc n = 0
 ·have hv := h2.1 he
  rw [he] at h1 ⊢
  obtain ⟨-,y1,y2,y3,h18,-,-⟩ := xYk n hf (by have := hv.el; omega) z1 z2 h1
  have h18 : L.pcall 18 [n.av] = some (.tup [(yBJ n y1 y2 y3).av,.int .i64 0]) := h18
  have hrv := xV5 hv y1 y2 y3
  have hrf := xSR hf y1 y2 y3
  obtain ⟨u,B,r,g1,g2,g3,-,z,g4⟩ := xNH (yBJ n y1 y2 y3) hrf
  rw [(xB7 _ hrf).2.2 hrv] at g1 g3 g4
  have hav : (yBJ n y1 y2 y3).av = .agg [.int .i64 n.vars,.int .i64 n.states,iw y1 n.fi,iw y2 n.st,.sl y3 (n.ed.map xBl).length (edges (n.ed.map xBl))] := rfl
  rw [hav] at g1 g4 h18
  rcases g2 with ⟨rfl,rfl,rfl⟩ | ⟨x,rfl,rfl⟩
  ·refine ⟨.sl true 0 [],[],[],?_,.inl ⟨rfl,rfl,rfl⟩,g3,fun h => absurd rfl h,true,?_⟩
   ·rw [xBk,yDf,a16,xA3]
    simp (maxSteps := 30000000) (disch := first | assumption | omega | (simp only [WL,AV.isCell,xAa] <;> omega) | rfl | decide) only [↓reduceIte,WB,xAR,xAc,xAQ,xAD,xAC,AV.cells,AV.isCell,xAb,xAj,xAk,xAs,xAt,xAu,xAv,xAw,xAx,xAL,xAy,xAz,xAl,xAA,xAm,xAn,xAB,xAo,xAp,xAf,Nat.reduceDiv,Nat.reduceMod,WP,xAI,xAF,xAX,xAW,xAV,xAG,xAH,xAE,W2,xAd,xAe,xAi,Nat.reduceAdd,Nat.reduceSub,Nat.reduceLeDiff,Nat.reduceMul,Int.reduceAdd,Int.reduceSub,Int.reduceMul,Int.reduceLT,Int.reduceLE,Int.reduceEq,Int.reduceToNat,Int.reduceNeg,Nat.reduceEqDiff,Nat.reduceBEq,Nat.reduceLT,xAa,xAg,xAO,xAq,xAr,xAM,h18,g1]
   ·rw [yDe,a16,xAK]
    simp (maxSteps := 30000000) (disch := first | assumption | omega | (simp only [WL,AV.isCell,xAa] <;> omega) | rfl | decide) only [↓reduceIte,WB,xAR,xAc,xAQ,xAD,xAC,AV.cells,AV.isCell,xAb,xAj,xAk,xAs,xAt,xAu,xAv,xAw,xAx,xAL,xAy,xAz,xAl,xAA,xAm,xAn,xAB,xAo,xAp,xAf,Nat.reduceDiv,Nat.reduceMod,WP,xAI,xAF,xAX,xAW,xAV,xAG,xAH,xAE,W2,xAd,xAe,xAi,Nat.reduceAdd,Nat.reduceSub,Nat.reduceLeDiff,Nat.reduceMul,Int.reduceAdd,Int.reduceSub,Int.reduceMul,Int.reduceLT,Int.reduceLE,Int.reduceEq,Int.reduceToNat,Int.reduceNeg,Nat.reduceEqDiff,Nat.reduceBEq,Nat.reduceLT,xAa,xAg,xAO,xAq,xAr,xAM,h18,g1]
    try rfl
  ·refine ⟨_,_,r,?_,.inr ⟨x,rfl,rfl⟩,g3,fun h => absurd rfl h,false,?_⟩
   ·rw [xBk,yDf,a16,xA3]
    simp (maxSteps := 30000000) (disch := first | assumption | omega | (simp only [WL,AV.isCell,xAa] <;> omega) | rfl | decide) only [↓reduceIte,WB,xAR,xAc,xAQ,xAD,xAC,AV.cells,AV.isCell,xAb,xAj,xAk,xAs,xAt,xAu,xAv,xAw,xAx,xAL,xAy,xAz,xAl,xAA,xAm,xAn,xAB,xAo,xAp,xAf,Nat.reduceDiv,Nat.reduceMod,WP,xAI,xAF,xAX,xAW,xAV,xAG,xAH,xAE,W2,xAd,xAe,xAi,Nat.reduceAdd,Nat.reduceSub,Nat.reduceLeDiff,Nat.reduceMul,Int.reduceAdd,Int.reduceSub,Int.reduceMul,Int.reduceLT,Int.reduceLE,Int.reduceEq,Int.reduceToNat,Int.reduceNeg,Nat.reduceEqDiff,Nat.reduceBEq,Nat.reduceLT,xAa,xAg,xAO,xAq,xAr,xAM,h18,g1]
   ·rw [yDe,a16,xAK]
    simp (maxSteps := 30000000) (disch := first | assumption | omega | (simp only [WL,AV.isCell,xAa] <;> omega) | rfl | decide) only [↓reduceIte,WB,xAR,xAc,xAQ,xAD,xAC,AV.cells,AV.isCell,xAb,xAj,xAk,xAs,xAt,xAu,xAv,xAw,xAx,xAL,xAy,xAz,xAl,xAA,xAm,xAn,xAB,xAo,xAp,xAf,Nat.reduceDiv,Nat.reduceMod,WP,xAI,xAF,xAX,xAW,xAV,xAG,xAH,xAE,W2,xAd,xAe,xAi,Nat.reduceAdd,Nat.reduceSub,Nat.reduceLeDiff,Nat.reduceMul,Int.reduceAdd,Int.reduceSub,Int.reduceMul,Int.reduceLT,Int.reduceLE,Int.reduceEq,Int.reduceToNat,Int.reduceNeg,Nat.reduceEqDiff,Nat.reduceBEq,Nat.reduceLT,xAa,xAg,xAO,xAq,xAr,xAM,h18,g1]
 ·have h18 := xZ2 he h1
  generalize xHc n = e at *
  refine ⟨.sl true 0 [],[],[],?_,.inl ⟨rfl,rfl,rfl⟩,fun h => absurd h he,fun _ => rfl,true,?_⟩
  ·rw [xBk,yDf,a16,xA3]
   simp (maxSteps := 30000000) (disch := first | assumption | omega | (simp only [WL,AV.isCell,xAa] <;> omega) | rfl | decide) only [↓reduceIte,WB,xAR,xAc,xAQ,xAD,xAC,AV.cells,AV.isCell,xAb,xAj,xAk,xAs,xAt,xAu,xAv,xAw,xAx,xAL,xAy,xAz,xAl,xAA,xAm,xAn,xAB,xAo,xAp,xAf,Nat.reduceDiv,Nat.reduceMod,WP,xAI,xAF,xAX,xAW,xAV,xAG,xAH,xAE,W2,xAd,xAe,xAi,Nat.reduceAdd,Nat.reduceSub,Nat.reduceLeDiff,Nat.reduceMul,Int.reduceAdd,Int.reduceSub,Int.reduceMul,Int.reduceLT,Int.reduceLE,Int.reduceEq,Int.reduceToNat,Int.reduceNeg,Nat.reduceEqDiff,Nat.reduceBEq,Nat.reduceLT,xAa,xAg,xAO,xAq,xAr,xAM,h18,he]
  ·rw [yDe,a16,xAK]
   simp (maxSteps := 30000000) (disch := first | assumption | omega | (simp only [WL,AV.isCell,xAa] <;> omega) | rfl | decide) only [↓reduceIte,WB,xAR,xAc,xAQ,xAD,xAC,AV.cells,AV.isCell,xAb,xAj,xAk,xAs,xAt,xAu,xAv,xAw,xAx,xAL,xAy,xAz,xAl,xAA,xAm,xAn,xAB,xAo,xAp,xAf,Nat.reduceDiv,Nat.reduceMod,WP,xAI,xAF,xAX,xAW,xAV,xAG,xAH,xAE,W2,xAd,xAe,xAi,Nat.reduceAdd,Nat.reduceSub,Nat.reduceLeDiff,Nat.reduceMul,Int.reduceAdd,Int.reduceSub,Int.reduceMul,Int.reduceLT,Int.reduceLE,Int.reduceEq,Int.reduceToNat,Int.reduceNeg,Nat.reduceEqDiff,Nat.reduceBEq,Nat.reduceLT,xAa,xAg,xAO,xAq,xAr,xAM,h18,he]
   try rfl
theorem Bld.keep {T T' : Heap} {v : AV} {es n : Nat} {cs : List AV} (h : Bld T v es n cs) (hk : ∀ j x,v = .own false (j + 1 + 1 + 1) 0 n es → T[j]? = some x → T'[j]? = some x) : Bld T' v es n cs := by
 rcases h with h | ⟨k,e1,e2,e3⟩
 ·exact .inl h
 ·exact .inr ⟨k,e1,hk k _ e1 e2,e3⟩
theorem Bld.cell {T : Heap} {v : AV} {es n : Nat} {cs : List AV} (h : Bld T v es n cs) : v.isCell = true := by
 rcases h with ⟨rfl,_⟩ | ⟨k,rfl,_⟩ <;> rfl
theorem Bld.owF {T : Heap} {v : AV} {es n : Nat} {cs : List AV} (h : Bld T v es n cs) (c0 c1 c2 : Blk) : OwF (c0 :: c1 :: c2 :: T) v es n cs := by
 rcases h with h | ⟨k,e1,e2,e3⟩
 ·exact .inl h
 ·exact .inr ⟨k + 1 + 1 + 1,e1,e2,e3⟩
theorem xYl {v u : AV} {S T : Nat → Bool} (hv : HasSet v S) (hu : HasSet u T) : ∃ z l,L.pcall 45 [v,u] = some (sw z l) ∧ HasSet (sw z l) (fun j => S j && T j) := by
 obtain ⟨za,a,rfl,wa,la,ha⟩ := id hv
 obtain ⟨zb,b,rfl,wb,lb,hb⟩ := id hu
 obtain ⟨z,cv,H',h,hf⟩ := xYA (za := za) (zb := zb) (g := 71) (op := (· &&& ·)) (fun x y H hx hy => yCQ x y H hx hy) wa wb
 refine ⟨z,xCl (· &&& ·) a b,?_,z,_,rfl,xTT (fun x y hx hy => Nat.lt_of_le_of_lt Nat.and_le_left hx) wa wb,by have := xNL (· &&& ·) a b; omega,fun j => ?_⟩
 ·rw [yDX,a45,xAK]
  simp (maxSteps := 30000000) (disch := first | assumption | omega | (simp only [WL,AV.isCell,xAa] <;> omega) | rfl | decide) only [↓reduceIte,WB,xAR,xAc,xAQ,xAD,xAC,AV.cells,AV.isCell,xAb,xAj,xAk,W2,xAd,xAe,xAi,Nat.reduceAdd,Nat.reduceSub,Nat.reduceLeDiff,Nat.reduceMul,Int.reduceAdd,Int.reduceSub,Int.reduceMul,Int.reduceLT,Int.reduceLE,Int.reduceEq,Int.reduceToNat,Int.reduceNeg,Nat.reduceEqDiff,Nat.reduceBEq,Nat.reduceLT,xAa,xAg,xAq,xAr,h]
  exact hf
 ·by_cases hj : j < 4096
  ·rw [xQH (f := (· && ·)) a b (by simp) (fun x y i => by simp) j hj,ha,hb]
  ·show mem _ j = (S j && T j)
   rw [hv.out (j := j) (by omega),hu.out (j := j) (by omega)]
   simp [mem,hj]
set_option maxHeartbeats 2000000 in
theorem xZ4 (n : Aut) (hf : Fits n) (hv : Valid n) (l1 : n.st.length < 1000) (l2 : n.fi.length < 1000) {zr zp : Bool} {r p : List Nat} {C D : Nat → Bool} (h1 : L.pcall 15 [n.av] = some (.tup [sw zr r,.int .i64 0])) (hr : HasSet (sw zr r) C) (h2 : L.pcall 16 [n.av] = some (.tup [sw zp p,.int .i64 0])) (hp : HasSet (sw zp p) D) :
  ∃ v G,L.icall (.func 17 []) [n.av] [] = some (.tup [v,.int .i64 0],G) ∧ OwA G v n.vars (setL fun j => C j && D j).length (n.st.filterMap (num fun j => C j && D j)) (n.fi.filterMap (num fun j => C j && D j)) (n.ed.filterMap (xPQ fun j => C j && D j)) := by
 obtain ⟨zi,li,h3,h4⟩ := xYl hr hp
 have h5 := xZ6 h4
 have hlen := xMy (fun j => C j && D j)
 generalize hU : (fun j => C j && D j) = U at *
 generalize decide ((setL U).length = 0) = z at *
 have hel := hv.el
 obtain ⟨T1,sv,k1,b1,m1⟩ := xQA (n := n) (U := U) (z := z) (k0 := (setL U).length) (o1 := .sl true 0 []) (o2 := .sl true 0 []) l1 hv.stOk n.st.length 0 [] (.sl true 0 []) [] (by omega) (by simp; omega) (.inl ⟨rfl,rfl,rfl⟩)
 obtain ⟨T2,fv,k2,b2,m2⟩ := xQB (n := n) (U := U) (z := z) (k0 := (setL U).length) (o1 := sv) (o2 := .sl true 0 []) l2 hv.fiOk n.fi.length 0 T1 (.sl true 0 []) [] (by omega) (by simp; omega) (.inl ⟨rfl,rfl,rfl⟩)
 obtain ⟨T3,ev,k3,b3,m3⟩ := xNG (n := n) (U := U) (z := z) (k0 := (setL U).length) (o1 := sv) (o2 := fv) (by omega) (fun e he => ⟨(hv.edOk hf e he).1,(hv.edOk hf e he).2.1⟩) n.ed.length 0 T2 (.sl true 0 []) [] (by omega) (by simp; omega) (.inl ⟨rfl,rfl,rfl⟩)
 have nn : ∀ j,Not (.sl true 0 []) j := fun j n es e => by cases e
 have b1' := (b1.keep (T' := T2) fun j x _ q => (m2 j x (nn j) q).1).keep (T' := T3) fun j x _ q => (m3 j x (nn j) q).1
 have b2' := b2.keep (T' := T3) fun j x _ q => (m3 j x (nn j) q).1
 have c1 := b1'.cell
 have c2 := b2'.cell
 have c3 := b3.cell
 simp only [List.drop_zero,List.nil_append,Int.natCast_zero] at k1 k2 k3 b1' b2' b3
 refine ⟨.agg [.int .i64 n.vars,.int .i64 ((setL U).length : Nat),sv,fv,ev],HT n U z (setL U).length sv fv ev T3,?_,sv,fv,ev,rfl,b1'.owF _ _ _,b2'.owF _ _ _,b3.owF _ _ _⟩
 have hall : ([.int .i64 n.vars,.int .i64 ((setL U).length : Nat),sv,fv,ev] : List AV).all AV.isCell = true := by simp only [List.all_cons,List.all_nil,c1,c2,c3]; rfl
 rw [yDO,a17,xA3]
 simp (maxSteps := 30000000) (disch := first | assumption | omega | (simp only [WL,AV.isCell,xAa] <;> omega) | rfl | decide) only [↓reduceIte,WB,xAR,xAc,xAQ,xAD,xAC,AV.cells,AV.isCell,xAb,xAj,xAk,W2,xAd,xAe,xAi,Nat.reduceAdd,Nat.reduceSub,Nat.reduceLeDiff,Nat.reduceMul,Int.reduceAdd,Int.reduceSub,Int.reduceMul,Int.reduceLT,Int.reduceLE,Int.reduceEq,Int.reduceToNat,Int.reduceNeg,Nat.reduceEqDiff,Nat.reduceBEq,Nat.reduceLT,xAa,xAg,xAq,xAr,xRv,xRy,xOs,h1,h2,h3,h5,k1,k2,k3,c1,c2,c3,bne,Nat.reduceBEq]
end Go.Abs.NfaD
