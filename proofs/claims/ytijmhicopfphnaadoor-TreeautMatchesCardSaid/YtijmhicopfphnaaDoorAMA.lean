/- A row of bools that grows by rounds: after as many rounds as it has places nothing changes. -/
import Derived.Test.YtijmhicopfphnaaDoorAbsEnc2
import Derived.Test.YtijmhicopfphnaaDoorAbsBun
import Derived.Test.YtijmhicopfphnaaDoorAB1
import Derived.Test.YtijmhicopfphnaaDoorAMM
import Derived.Test.YtijmhicopfphnaaDoorAMO
namespace Go.Abs.Tree
open Go Go.Abs
set_option linter.unusedSimpArgs false
set_option linter.unusedVariables false
structure Le (B C : List Bool) : Prop where
 len : B.length = C.length
 sub : ∀ j,B.getD j false = true → C.getD j false = true
theorem Le.refl (B : List Bool) : Le B B := ⟨rfl,fun _ h => h⟩
theorem Le.trans {B C D : List Bool} (h : Le B C) (k : Le C D) : Le B D := ⟨h.len.trans k.len,fun j q => k.sub j (h.sub j q)⟩
theorem Le.anti : ∀ {B C : List Bool},Le B C → Le C B → B = C
 | [],[],_,_ => rfl
 | [],_ :: _,h,_ => by cases h.len
 | _ :: _,[],h,_ => by cases h.len
 | b :: B,c :: C,h,k => by
  have h0 := h.sub 0
  have k0 := k.sub 0
  simp only [List.getD_cons_zero] at h0 k0
  have e : b = c := by cases b <;> cases c <;> simp_all
  have : B = C := Le.anti ⟨by simpa using h.len,fun j q => by simpa using h.sub (j + 1) (by simpa using q)⟩ ⟨by simpa using k.len,fun j q => by simpa using k.sub (j + 1) (by simpa using q)⟩
  rw [e,this]
theorem Le.cnt : ∀ {B C : List Bool},Le B C → B.count true ≤ C.count true ∧ (B.count true = C.count true → B = C)
 | [],[],_ => ⟨Nat.le_refl _,fun _ => rfl⟩
 | [],_ :: _,h => by cases h.len
 | _ :: _,[],h => by cases h.len
 | b :: B,c :: C,h => by
  have h0 := h.sub 0
  simp only [List.getD_cons_zero] at h0
  obtain ⟨i1,i2⟩ := Le.cnt (B := B) (C := C) ⟨by simpa using h.len,fun j q => by simpa using h.sub (j + 1) (by simpa using q)⟩
  cases b <;> cases c
  ·simp only [List.count_cons_of_ne (show false ≠ true by decide)]
   exact ⟨i1,fun e => by rw [i2 e]⟩
  ·simp only [List.count_cons_of_ne (show false ≠ true by decide),List.count_cons_self]
   exact ⟨by omega,fun e => by omega⟩
  ·cases h0 rfl
  ·simp only [List.count_cons_self]
   exact ⟨by omega,fun e => by rw [i2 (by omega)]⟩
theorem xZQ {B : List Bool} (h : B.length ≤ B.count true) : ∀ {C : List Bool},Le B C → C = B := fun {C} k => by
 have h1 := k.cnt
 have h2 := List.count_le_length (a := true) (l := C)
 have := k.len
 exact (h1.2 (by omega)).symm
section
variable {α : Type} {f : List Bool → α → List Bool}
def xB5 (f : List Bool → α → List Bool) : List α → List Bool → List Bool
 | [],B => B
 | u :: l,B => xB5 f l (f B u)
def xD9 (f : List Bool → α → List Bool) (l : List α) : Nat → List Bool → List Bool
 | 0,B => B
 | k + 1,B => xD9 f l k (xB5 f l B)
theorem xE8 (hf : ∀ B u,Le B (f B u)) : ∀ (l : List α) (B : List Bool),Le B (xB5 f l B)
 | [],B => Le.refl B
 | u :: l,B => (hf B u).trans (xE8 hf l (f B u))
theorem xJF (hf : ∀ B u,Le B (f B u)) (l : List α) : ∀ (k : Nat) (B : List Bool),Le B (xD9 f l k B)
 | 0,B => Le.refl B
 | k + 1,B => (xE8 hf l B).trans (xJF hf l k _)
theorem xMw (hf : ∀ B u,Le B (f B u)) : ∀ {l : List α} {B : List Bool},xB5 f l B = B → ∀ u ∈ l,f B u = B
 | v :: l,B,h,u,hu => by
  have h1 := hf B v
  have h2 := xE8 hf l (f B v)
  rw [show xB5 f l (f B v) = B from h] at h2
  have e : f B v = B := h2.anti h1
  rcases List.mem_cons.1 hu with rfl | hu
  ·exact e
  ·exact xMw hf (by rw [show xB5 f (v :: l) B = xB5 f l (f B v) from rfl,e] at h; exact h) u hu
theorem xPX {l : List α} {B : List Bool} (h : xB5 f l B = B) : ∀ k,xD9 f l k B = B
 | 0 => rfl
 | k + 1 => by rw [xD9,h]; exact xPX h k
theorem xMx (hf : ∀ B u,Le B (f B u)) (l : List α) : ∀ (k : Nat) (B : List Bool),B.length ≤ B.count true + k → xB5 f l (xD9 f l k B) = xD9 f l k B
 | 0,B,h => xZQ h (xE8 hf l B)
 | k + 1,B,h => by
  by_cases e : xB5 f l B = B
  ·rw [xPX e]; exact e
  ·have h1 := (xE8 hf l B).cnt
   have h2 := (xE8 hf l B).len
   have : B.count true ≠ (xB5 f l B).count true := fun q => e (h1.2 q).symm
   exact xMx hf l k _ (by omega)
theorem xTd {U : Nat → Bool} : ∀ {l : List α} {B : List Bool},(∀ u ∈ l,∀ B,(∀ j,B.getD j false = true → U j = true) → ∀ j,(f B u).getD j false = true → U j = true) → (∀ j,B.getD j false = true → U j = true) → ∀ j,(xB5 f l B).getD j false = true → U j = true
 | [],B,_,h,j,q => h j q
 | u :: l,B,hf,h,j,q => xTd (l := l) (fun v hv => hf v (List.mem_cons_of_mem _ hv)) (hf u List.mem_cons_self B h) j q
theorem xMy {U : Nat → Bool} {l : List α} (hf : ∀ u ∈ l,∀ B,(∀ j,B.getD j false = true → U j = true) → ∀ j,(f B u).getD j false = true → U j = true) : ∀ (k : Nat) {B : List Bool},(∀ j,B.getD j false = true → U j = true) → ∀ j,(xD9 f l k B).getD j false = true → U j = true
 | 0,B,h,j,q => h j q
 | k + 1,B,h,j,q => xMy hf k (xTd hf h) j q
end
theorem xCx (B : List Bool) (b j : Nat) : (B.set b true).getD j false = (decide (j = b ∧ b < B.length) || B.getD j false) := by
 rw [List.getD_eq_getElem?_getD,List.getElem?_set,List.getD_eq_getElem?_getD]
 by_cases e : b = j
 ·subst e
  by_cases h : b < B.length
  ·simp [h]
  ·simp [h]
 ·have : ¬ (j = b ∧ b < B.length) := fun h => e h.1.symm
  simp [e,this]
theorem xXU (B : List Bool) (b : Nat) : Le B (B.set b true) := ⟨(List.length_set ..).symm,fun j h => by rw [xCx,h,Bool.or_true]⟩
def xFM : List Nat → List Bool → List Bool
 | [],B => B
 | q :: l,B => xFM l (B.set q true)
theorem xFl : ∀ (l : List Nat) (B : List Bool),(xFM l B).length = B.length
 | [],B => rfl
 | q :: l,B => by rw [xFM,xFl,List.length_set]
theorem xMz : ∀ (l : List Nat) {B : List Bool} (j : Nat),(∀ q ∈ l,q < B.length) → (xFM l B).getD j false = (decide (j ∈ l) || B.getD j false)
 | [],B,j,h => by simp [xFM]
 | q :: l,B,j,h => by
  have h0 := h q List.mem_cons_self
  rw [xFM,xMz l j (fun x hx => by rw [List.length_set]; exact h x (List.mem_cons_of_mem _ hx)),xCx]
  by_cases e : j = q
  ·subst e; simp [h0]
  ·simp [e]
theorem xJG (s j : Nat) : (List.replicate s false).getD j false = false := by
 rw [List.getD_eq_getElem?_getD,List.getElem?_replicate]; split <;> rfl
theorem xMA {l : List Int} {s : Nat} (h : ∀ q ∈ l,0 ≤ q ∧ q < (s : Int)) : (∀ q ∈ l.map Int.toNat,q < s) ∧ ∀ j : Nat,decide (j ∈ l.map Int.toNat) = l.contains (j : Int) := by
 refine ⟨fun q hq => ?_,fun j => ?_⟩
 ·obtain ⟨x,hx,rfl⟩ := List.mem_map.1 hq
  have := h x hx; omega
 ·rw [Bool.eq_iff_iff,decide_eq_true_eq,List.contains_iff_mem,List.mem_map]
  constructor
  ·rintro ⟨x,hx,e⟩
   have := h x hx
   rw [show (j : Int) = x by omega]; exact hx
  ·intro hx
   exact ⟨_,hx,by omega⟩
def blz (l : List Bool) : List AV := l.map AV.bool
theorem xAL (l : List Bool) : (blz l).length = l.length := by simp [blz]
theorem xA1 {l : List Bool} {k : Nat} (h : k < l.length) : List.take 1 (List.drop k (blz l)) = [AV.bool (l.getD k false)] := by
 rw [List.drop_eq_getElem_cons (by simpa [blz] using h),List.take_succ_cons,List.take_zero]
 simp [blz,List.getD_eq_getElem?_getD,List.getElem?_eq_getElem h]
theorem xFL {l : List Bool} {k : Nat} {x : Bool} (h : k < l.length) : List.take k (blz l) ++ (AV.bool x :: List.drop (k + 1) (blz l)) = blz (l.set k x) := by
 unfold blz
 rw [List.map_set,List.set_eq_take_append_cons_drop,if_pos (by simpa using h)]
theorem xZR (n : Nat) : xC8 [AV.bool false] n = blz (List.replicate n false) := by
 induction n with
 | zero => rfl
 | succ n ih => rw [List.replicate_succ]; simp only [xC8] at ih ⊢; rw [blz,List.map_cons]; first | (rw [← blz,← ih]; rfl) | simp [List.replicate_succ,← ih]
theorem xHD (l : List Bool) : List.take l.length (blz l) = blz l := List.take_of_length_le (by rw [xAL]; exact Nat.le_refl _)
theorem xAY (d : Nat) (H : Heap) (l : List Bool) : (blz l).mapM (frz d H) = some (blz l) := by
 induction l with
 | nil => rfl
 | cons e l ih =>
  have : blz (e :: l) = .bool e :: blz l := rfl
  rw [this,List.mapM_cons,ih]
  cases d <;> rfl
theorem xAZ (d : Nat) (H : Heap) (l : List Bool) : (blz l).flatMap (bor d H) = [] := by
 induction l with
 | nil => rfl
 | cons e l ih =>
  have : blz (e :: l) = .bool e :: blz l := rfl
  rw [this,List.flatMap_cons,ih]
  cases d <;> rfl
theorem xA5 (l : List Bool) : (blz l).all xAM = true := by
 rw [List.all_eq_true]; intro a ha; obtain ⟨x,_,rfl⟩ := List.mem_map.1 ha; rfl
theorem xCo {G : Heap} {o : Nat} {b : Blk} (h : G[o]? = some b) : G.set o b = G := by
 refine List.ext_getElem? fun j => ?_
 have lo := (List.getElem?_eq_some_iff.1 h).1
 by_cases e : j = o
 ·subst e; rw [List.getElem?_set_self lo,h]
 ·rw [List.getElem?_set_ne (fun h => e h.symm)]
theorem xXV (n : Aut) {s : Nat} (hn : n.states = (s : Nat)) (hs : s ≤ 64) : xBB L 85 [n.av] = some (.own false 0 0 s 1,[.cells false false (blz (List.replicate s false))]) := by
 have hr := xZR s
 rw [xBF,yHh,a85,xBf]
 simp (maxSteps := 30000000) (disch := first | assumption | omega | (simp only [WL,AV.isCell,xAb,xAa,xAL] <;> omega) | rfl | decide) only [↓reduceIte,WB,xAW,xAd,xAV,xAm,xAl,AV.cells,AV.isCell,xAc,xAi,xAj,xAz,xAA,xAB,xAC,xAD,xAE,xAX,xAF,xAG,xAn,xAH,xAo,xAp,xAI,xAq,xAr,xAk,Nat.reduceDiv,Nat.reduceMod,WP,xAT,xAM,xBm,xBl,xBk,xAP,xAS,xAN,W2,xAe,xAf,xAh,Nat.reduceAdd,Nat.reduceSub,Nat.reduceLeDiff,Nat.reduceMul,Int.reduceAdd,Int.reduceSub,Int.reduceMul,Int.reduceLT,Int.reduceLE,Int.reduceEq,Int.reduceToNat,Int.reduceNeg,Nat.reduceEqDiff,Nat.reduceBEq,Nat.reduceLT,xAb,xAJ,xAv,xAw,lfs_at0',xAa,xAs,xAx,xAy,xAQ,xAR,xA1,xAY,xAZ,xA5,hn,hr]
theorem xZS (x p n : Nat) (hx : x < 256) (hp : p < 256) (hn : n < 256) : L.pcall 41 [.int .u8 (x : Nat),.int .u8 (p : Nat),.int .u8 (n : Nat)] = some (.bool (xZL p n x)) := by
 have h1 := yDg hx hp
 have h2 := yDg hx hn
 have e1 : (((x &&& p : Nat) : Int) = ((p : Nat) : Int)) = (x &&& p = p) := propext ⟨fun h => by omega,fun h => by omega⟩
 have e2 : (((x &&& n : Nat) : Int) = 0) = (x &&& n = 0) := propext ⟨fun h => by omega,fun h => by omega⟩
 unfold xZL
 rw [yG0,a41,xAu]
 by_cases c1 : x &&& p = p
 ·by_cases c2 : x &&& n = 0
  ·simp (maxSteps := 30000000) (disch := first | assumption | omega | (simp only [WL,AV.isCell,xAb,xAa,xAL] <;> omega) | rfl | decide) only [↓reduceIte,WB,xAW,xAd,xAV,xAm,xAl,AV.cells,AV.isCell,xAc,xAi,xAj,xAz,xAA,xAB,xAC,xAD,xAE,xAX,xAF,xAG,xAn,xAH,xAo,xAp,xAI,xAq,xAr,xAk,Nat.reduceDiv,Nat.reduceMod,WP,xAT,xAM,xBm,xBl,xBk,xAP,xAS,xAN,W2,xAe,xAf,xAh,Nat.reduceAdd,Nat.reduceSub,Nat.reduceLeDiff,Nat.reduceMul,Int.reduceAdd,Int.reduceSub,Int.reduceMul,Int.reduceLT,Int.reduceLE,Int.reduceEq,Int.reduceToNat,Int.reduceNeg,Nat.reduceEqDiff,Nat.reduceBEq,Nat.reduceLT,xAb,xAJ,xAv,xAw,lfs_at0',xAa,xAs,xAx,xAy,xAQ,xAR,xA1,xAY,xAZ,xA5,h1,h2,e1,e2,c1,c2]
  ·simp (maxSteps := 30000000) (disch := first | assumption | omega | (simp only [WL,AV.isCell,xAb,xAa,xAL] <;> omega) | rfl | decide) only [↓reduceIte,WB,xAW,xAd,xAV,xAm,xAl,AV.cells,AV.isCell,xAc,xAi,xAj,xAz,xAA,xAB,xAC,xAD,xAE,xAX,xAF,xAG,xAn,xAH,xAo,xAp,xAI,xAq,xAr,xAk,Nat.reduceDiv,Nat.reduceMod,WP,xAT,xAM,xBm,xBl,xBk,xAP,xAS,xAN,W2,xAe,xAf,xAh,Nat.reduceAdd,Nat.reduceSub,Nat.reduceLeDiff,Nat.reduceMul,Int.reduceAdd,Int.reduceSub,Int.reduceMul,Int.reduceLT,Int.reduceLE,Int.reduceEq,Int.reduceToNat,Int.reduceNeg,Nat.reduceEqDiff,Nat.reduceBEq,Nat.reduceLT,xAb,xAJ,xAv,xAw,lfs_at0',xAa,xAs,xAx,xAy,xAQ,xAR,xA1,xAY,xAZ,xA5,h1,h2,e1,e2,c1,c2]
 ·by_cases c2 : x &&& n = 0
  ·simp (maxSteps := 30000000) (disch := first | assumption | omega | (simp only [WL,AV.isCell,xAb,xAa,xAL] <;> omega) | rfl | decide) only [↓reduceIte,WB,xAW,xAd,xAV,xAm,xAl,AV.cells,AV.isCell,xAc,xAi,xAj,xAz,xAA,xAB,xAC,xAD,xAE,xAX,xAF,xAG,xAn,xAH,xAo,xAp,xAI,xAq,xAr,xAk,Nat.reduceDiv,Nat.reduceMod,WP,xAT,xAM,xBm,xBl,xBk,xAP,xAS,xAN,W2,xAe,xAf,xAh,Nat.reduceAdd,Nat.reduceSub,Nat.reduceLeDiff,Nat.reduceMul,Int.reduceAdd,Int.reduceSub,Int.reduceMul,Int.reduceLT,Int.reduceLE,Int.reduceEq,Int.reduceToNat,Int.reduceNeg,Nat.reduceEqDiff,Nat.reduceBEq,Nat.reduceLT,xAb,xAJ,xAv,xAw,lfs_at0',xAa,xAs,xAx,xAy,xAQ,xAR,xA1,xAY,xAZ,xA5,h1,h2,e1,e2,c1,c2]
  ·simp (maxSteps := 30000000) (disch := first | assumption | omega | (simp only [WL,AV.isCell,xAb,xAa,xAL] <;> omega) | rfl | decide) only [↓reduceIte,WB,xAW,xAd,xAV,xAm,xAl,AV.cells,AV.isCell,xAc,xAi,xAj,xAz,xAA,xAB,xAC,xAD,xAE,xAX,xAF,xAG,xAn,xAH,xAo,xAp,xAI,xAq,xAr,xAk,Nat.reduceDiv,Nat.reduceMod,WP,xAT,xAM,xBm,xBl,xBk,xAP,xAS,xAN,W2,xAe,xAf,xAh,Nat.reduceAdd,Nat.reduceSub,Nat.reduceLeDiff,Nat.reduceMul,Int.reduceAdd,Int.reduceSub,Int.reduceMul,Int.reduceLT,Int.reduceLE,Int.reduceEq,Int.reduceToNat,Int.reduceNeg,Nat.reduceEqDiff,Nat.reduceBEq,Nat.reduceLT,xAb,xAJ,xAv,xAw,lfs_at0',xAa,xAs,xAx,xAy,xAQ,xAR,xA1,xAY,xAZ,xA5,h1,h2,e1,e2,c1,c2]
theorem yEI {n : Aut} {p b s : Nat} (hpb : p ≠ b) (hl : n.st.length < 1000000) (hs : s ≤ 64) (hq : ∀ q ∈ n.st,0 ≤ q ∧ q < (s : Int)) : ∀ d i B G,i + d = n.st.length → B.length = s → G[p]? = some (.cells false false n.cells) → G[b]? = some (.cells false false (blz B)) →
  L.loop xNJ xYU ⟨xNK (.ptr p 0) (.own false b 0 s 1) (.int .i64 (i : Nat)),G⟩ =
   some (.exit 0,⟨xNK (.ptr p 0) (.own false b 0 s 1) (.int .i64 (n.st.length : Nat)),G.set b (.cells false false (blz (xFM ((n.st.drop i).map Int.toNat) B)))⟩)
 | 0,i,B,G,h,hB,hp,hG => by
  obtain rfl : i = n.st.length := by omega
  rw [List.drop_length,List.map_nil,xFM,xCo hG,yAc]
  simp (maxSteps := 30000000) (disch := first | assumption | omega | (simp only [WL,AV.isCell,xAb,xAa,xAL] <;> omega) | rfl | decide) only [↓reduceIte,WB,xAW,xAd,xAV,xAm,xAl,AV.cells,AV.isCell,xAc,xAi,xAj,xAz,xAA,xAB,xAC,xAD,xAE,xAX,xAF,xAG,xAn,xAH,xAo,xAp,xAI,xAq,xAr,xAk,Nat.reduceDiv,Nat.reduceMod,WP,xAT,xAM,xBm,xBl,xBk,xAP,xAS,xAN,W2,xAe,xAf,xAh,Nat.reduceAdd,Nat.reduceSub,Nat.reduceLeDiff,Nat.reduceMul,Int.reduceAdd,Int.reduceSub,Int.reduceMul,Int.reduceLT,Int.reduceLE,Int.reduceEq,Int.reduceToNat,Int.reduceNeg,Nat.reduceEqDiff,Nat.reduceBEq,Nat.reduceLT,xAb,xAJ,xAv,xAw,lfs_at0',xAa,xAs,xAx,xAy,xAQ,xAR,xA1,xAY,xAZ,xA5,xRo,xVj,hp]
 | d + 1,i,B,G,h,hB,hp,hG => by
  have hlt : (i : Int) < (n.st.length : Nat) := by omega
  have hm : n.st.getD i 0 ∈ n.st := by
   rw [List.getD_eq_getElem?_getD,List.getElem?_eq_getElem (by omega)]
   exact List.getElem_mem _
  obtain ⟨h0,h1⟩ := hq _ hm
  rw [xCw (by omega : i < n.st.length),List.map_cons,xFM]
  generalize hx : n.st.getD i 0 = x at *
  obtain ⟨q,rfl⟩ := Int.eq_ofNat_of_zero_le h0
  have hqs : q < B.length := by omega
  have hst := xFL (x := true) hqs
  have hbl := xAL B
  rw [hB] at hbl
  have lo := (List.getElem?_eq_some_iff.1 hG).1
  have ih := yEI (n := n) (p := p) (b := b) (s := s) hpb hl hs hq d (i + 1) (B.set q true) (G.set b (.cells false false (blz (B.set q true)))) (by omega) (by simpa using hB) (by rw [List.getElem?_set_ne (fun e => hpb e.symm)]; exact hp) (by rw [List.getElem?_set_self lo])
  rw [List.set_set,← hst] at ih
  rw [Int.toNat_natCast]
  have hqs' : q < s := by omega
  have hqI : ((q : Nat) : Int) < (s : Nat) := by omega
  generalize blz B = LB at *
  rw [yAc]
  simp (maxSteps := 30000000) (disch := first | assumption | omega | (simp only [WL,AV.isCell,xAb,xAa,xAL] <;> omega) | rfl | decide) only [↓reduceIte,WB,xAW,xAd,xAV,xAm,xAl,AV.cells,AV.isCell,xAc,xAi,xAj,xAz,xAA,xAB,xAC,xAD,xAE,xAX,xAF,xAG,xAn,xAH,xAo,xAp,xAI,xAq,xAr,xAk,Nat.reduceDiv,Nat.reduceMod,WP,xAT,xAM,xBm,xBl,xBk,xAP,xAS,xAN,W2,xAe,xAf,xAh,Nat.reduceAdd,Nat.reduceSub,Nat.reduceLeDiff,Nat.reduceMul,Int.reduceAdd,Int.reduceSub,Int.reduceMul,Int.reduceLT,Int.reduceLE,Int.reduceEq,Int.reduceToNat,Int.reduceNeg,Nat.reduceEqDiff,Nat.reduceBEq,Nat.reduceLT,xAb,xAJ,xAv,xAw,lfs_at0',xAa,xAs,xAx,xAy,xAQ,xAR,xA1,xAY,xAZ,xA5,xRo,xVj,hp,hlt,hx,hG,hbl,hqs',hqI,ih]
def stS (X Y : List Bool) (x : Nat) (B : List Bool) (u : Rl) : List Bool := if X.getD u.l.toNat false = true ∧ Y.getD u.r.toNat false = true ∧ xZL u.p u.n x = true then B.set u.t.toNat true else B
theorem xXW (X Y : List Bool) (x : Nat) (B : List Bool) (u : Rl) : (stS X Y x B u).length = B.length := by unfold stS; split <;> simp
theorem xJH (X Y : List Bool) (x : Nat) : ∀ (l : List Rl) (B : List Bool),(xB5 (stS X Y x) l B).length = B.length
 | [],B => rfl
 | u :: l,B => by rw [xB5,xJH,xXW]
structure RlS (s : Nat) (rl : List Rl) : Prop where
 h : ∀ u ∈ rl,(0 ≤ u.l ∧ u.l < (s : Int)) ∧ (0 ≤ u.r ∧ u.r < (s : Int)) ∧ (0 ≤ u.t ∧ u.t < (s : Int)) ∧ u.p < 256 ∧ u.n < 256
theorem xDJ {G X : Heap} {b : Nat} {x y : Blk} (h : G[b]? = some x) : (G ++ X).set b y = G.set b y ++ X := List.set_append_left _ _ (List.getElem?_eq_some_iff.1 h).1
set_option maxHeartbeats 4000000 in
theorem xXX {n : Aut} {zt : Bool} {t : List Lf} {m p b s : Nat} {X Y : List Bool} (hpb : p ≠ b) (hs : s ≤ 64) (hl : n.rl.length < 1000000) (hr : RlS s n.rl) (htl : t.length < 1000000) (hm : m < t.length) (hx : (t.getD m f0).x < 256) (hX : X.length = s) (hY : Y.length = s) : ∀ d i B G,i + d = n.rl.length → B.length = s → G[p]? = some (.cells false false n.cells) → G[b]? = some (.cells false false (blz B)) →
  ∃ T,L.loop xNL xYV ⟨xNM (tw zt t) (.int .i64 (m : Nat)) (.ptr p 0) (.own false b 0 s 1) (.sl false s (blz X)) (.sl false s (blz Y)) (.int .i64 (i : Nat)),G⟩ =
   some (.exit 2,⟨xNM (tw zt t) (.int .i64 (m : Nat)) (.ptr p 0) (.own false b 0 s 1) (.sl false s (blz X)) (.sl false s (blz Y)) (.int .i64 (n.rl.length : Nat)),G.set b (.cells false false (blz (xB5 (stS X Y (t.getD m f0).x) (n.rl.drop i) B))) ++ T⟩)
 | 0,i,B,G,h,hB,hp,hG => by
  obtain rfl : i = n.rl.length := by omega
  refine ⟨[],?_⟩
  rw [List.drop_length,xB5,xCo hG,List.append_nil,xNN]
  simp (maxSteps := 30000000) (disch := first | assumption | omega | (simp only [WL,AV.isCell,xAb,xAa,xAL] <;> omega) | rfl | decide) only [↓reduceIte,WB,xAW,xAd,xAV,xAm,xAl,AV.cells,AV.isCell,xAc,xAi,xAj,xAz,xAA,xAB,xAC,xAD,xAE,xAX,xAF,xAG,xAn,xAH,xAo,xAp,xAI,xAq,xAr,xAk,Nat.reduceDiv,Nat.reduceMod,WP,xAT,xAM,xBm,xBl,xBk,xAP,xAS,xAN,W2,xAe,xAf,xAh,Nat.reduceAdd,Nat.reduceSub,Nat.reduceLeDiff,Nat.reduceMul,Int.reduceAdd,Int.reduceSub,Int.reduceMul,Int.reduceLT,Int.reduceLE,Int.reduceEq,Int.reduceToNat,Int.reduceNeg,Nat.reduceEqDiff,Nat.reduceBEq,Nat.reduceLT,xAb,xAJ,xAv,xAw,lfs_at0',xAa,xAs,xAx,xAy,xAQ,xAR,xA1,xAY,xAZ,xA5,xIo,xKu,hp]
 | d + 1,i,B,G,h,hB,hp,hG => by
  have hlt : (i : Int) < (n.rl.length : Nat) := by omega
  obtain ⟨⟨l0,l1⟩,⟨q0,q1⟩,⟨t0,t1⟩,p1,n1⟩ := hr.h _ (xC0 (by omega : i < n.rl.length))
  have hc := xZS (t.getD m f0).x (n.rl.getD i r0).p (n.rl.getD i r0).n hx p1 n1
  have hat := xAs (show i < n.rl.length by omega)
  rw [xCv (by omega : i < n.rl.length),xB5]
  generalize n.rl.getD i r0 = u at *
  obtain ⟨ul,ur,ut,up,un⟩ := u
  simp only at l0 l1 q0 q1 t0 t1 p1 n1 hc hat
  obtain ⟨xl,rfl⟩ := Int.eq_ofNat_of_zero_le l0
  obtain ⟨xr,rfl⟩ := Int.eq_ofNat_of_zero_le q0
  obtain ⟨xt,rfl⟩ := Int.eq_ofNat_of_zero_le t0
  have la : xl < s := by omega
  have lb : xr < s := by omega
  have lc : xt < s := by omega
  have laI : ((xl : Nat) : Int) < (s : Nat) := by omega
  have lbI : ((xr : Nat) : Int) < (s : Nat) := by omega
  have lcI : ((xt : Nat) : Int) < (s : Nat) := by omega
  have lo := (List.getElem?_eq_some_iff.1 hG).1
  have hbl := xAL B
  rw [hB] at hbl
  have hxl := xAL X
  have hyl := xAL Y
  rw [hX] at hxl
  rw [hY] at hyl
  have ata := xA1 (l := X) (k := xl) (by omega)
  have atb := xA1 (l := Y) (k := xr) (by omega)
  have hsc := xFL (l := B) (k := xt) (x := true) (by omega)
  have hg0 : ∀ y : Blk,(G ++ [y])[b]? = some (.cells false false (blz B)) := fun y => xA8 hG
  obtain ⟨T1,same⟩ := xXX (zt := zt) (X := X) (Y := Y) hpb hs hl hr htl hm hx hX hY d (i + 1) B (G ++ [Blk.cells false false [.int .i64 (xl : Nat),.int .i64 (xr : Nat),.int .i64 (xt : Nat),.int .u8 (up : Nat),.int .u8 (un : Nat)]]) (by omega) hB (xA8 hp) (xA8 hG)
  obtain ⟨T2,more⟩ := xXX (zt := zt) (X := X) (Y := Y) hpb hs hl hr htl hm hx hX hY d (i + 1) (B.set xt true) ((G ++ [Blk.cells false false [.int .i64 (xl : Nat),.int .i64 (xr : Nat),.int .i64 (xt : Nat),.int .u8 (up : Nat),.int .u8 (un : Nat)]]).set b (.cells false false (blz (B.set xt true)))) (by omega) (by simpa using hB) (by rw [List.getElem?_set_ne (fun h => hpb h.symm)]; exact xA8 hp) (by rw [List.getElem?_set_self (by simp; omega)])
  rw [xDJ hG,List.append_assoc] at same
  rw [List.set_set,xDJ hG,xDJ hG,List.append_assoc,← hsc] at more
  by_cases c1 : X.getD xl false = true
  ·by_cases c2 : Y.getD xr false = true
   ·cases c3 : xZL up un (t.getD m f0).x with
    | true =>
     rw [c1] at ata
     rw [c2] at atb
     rw [c3] at hc
     refine ⟨Blk.cells false false [.int .i64 (xl : Nat),.int .i64 (xr : Nat),.int .i64 (xt : Nat),.int .u8 (up : Nat),.int .u8 (un : Nat)] :: T2,?_⟩
     rw [stS,if_pos ⟨by simpa using c1,by simpa using c2,c3⟩]
     simp only [Int.toNat_natCast]
     clear same hsc
     generalize blz B = LB at *
     generalize blz X = LX at *
     generalize blz Y = LY at *
     rw [xNN]
     simp (maxSteps := 30000000) (disch := first | assumption | omega | (simp only [WL,AV.isCell,xAb,xAa,xAL] <;> omega) | rfl | decide) only [↓reduceIte,WB,xAW,xAd,xAV,xAm,xAl,AV.cells,AV.isCell,xAc,xAi,xAj,xAz,xAA,xAB,xAC,xAD,xAE,xAX,xAF,xAG,xAn,xAH,xAo,xAp,xAI,xAq,xAr,xAk,Nat.reduceDiv,Nat.reduceMod,WP,xAT,xAM,xBm,xBl,xBk,xAP,xAS,xAN,W2,xAe,xAf,xAh,Nat.reduceAdd,Nat.reduceSub,Nat.reduceLeDiff,Nat.reduceMul,Int.reduceAdd,Int.reduceSub,Int.reduceMul,Int.reduceLT,Int.reduceLE,Int.reduceEq,Int.reduceToNat,Int.reduceNeg,Nat.reduceEqDiff,Nat.reduceBEq,Nat.reduceLT,xAb,xAJ,xAv,xAw,lfs_at0',xAa,xAs,xAx,xAy,xAQ,xAR,xA1,xAY,xAZ,xA5,xIo,xKu,hp,hlt,hat,hg0,hG,hbl,hxl,hyl,la,laI,lb,lbI,lc,lcI,ata,atb,hc,xDJ hG,more]
    | false =>
     rw [c1] at ata
     rw [c2] at atb
     rw [c3] at hc
     refine ⟨Blk.cells false false [.int .i64 (xl : Nat),.int .i64 (xr : Nat),.int .i64 (xt : Nat),.int .u8 (up : Nat),.int .u8 (un : Nat)] :: T1,?_⟩
     rw [stS,if_neg (fun h => by rw [c3] at h; cases h.2.2)]
     clear more hsc
     generalize blz B = LB at *
     generalize blz X = LX at *
     generalize blz Y = LY at *
     rw [xNN]
     simp (maxSteps := 30000000) (disch := first | assumption | omega | (simp only [WL,AV.isCell,xAb,xAa,xAL] <;> omega) | rfl | decide) only [↓reduceIte,WB,xAW,xAd,xAV,xAm,xAl,AV.cells,AV.isCell,xAc,xAi,xAj,xAz,xAA,xAB,xAC,xAD,xAE,xAX,xAF,xAG,xAn,xAH,xAo,xAp,xAI,xAq,xAr,xAk,Nat.reduceDiv,Nat.reduceMod,WP,xAT,xAM,xBm,xBl,xBk,xAP,xAS,xAN,W2,xAe,xAf,xAh,Nat.reduceAdd,Nat.reduceSub,Nat.reduceLeDiff,Nat.reduceMul,Int.reduceAdd,Int.reduceSub,Int.reduceMul,Int.reduceLT,Int.reduceLE,Int.reduceEq,Int.reduceToNat,Int.reduceNeg,Nat.reduceEqDiff,Nat.reduceBEq,Nat.reduceLT,xAb,xAJ,xAv,xAw,lfs_at0',xAa,xAs,xAx,xAy,xAQ,xAR,xA1,xAY,xAZ,xA5,xIo,xKu,hp,hlt,hat,hg0,hG,hbl,hxl,hyl,la,laI,lb,lbI,lc,lcI,ata,atb,hc,same]
   ·have c2' : Y.getD xr false = false := by simpa using c2
    rw [c1] at ata
    rw [c2'] at atb
    refine ⟨Blk.cells false false [.int .i64 (xl : Nat),.int .i64 (xr : Nat),.int .i64 (xt : Nat),.int .u8 (up : Nat),.int .u8 (un : Nat)] :: T1,?_⟩
    rw [stS,if_neg (fun h => c2 (by simpa using h.2.1))]
    clear more hsc
    generalize blz B = LB at *
    generalize blz X = LX at *
    generalize blz Y = LY at *
    rw [xNN]
    simp (maxSteps := 30000000) (disch := first | assumption | omega | (simp only [WL,AV.isCell,xAb,xAa,xAL] <;> omega) | rfl | decide) only [↓reduceIte,WB,xAW,xAd,xAV,xAm,xAl,AV.cells,AV.isCell,xAc,xAi,xAj,xAz,xAA,xAB,xAC,xAD,xAE,xAX,xAF,xAG,xAn,xAH,xAo,xAp,xAI,xAq,xAr,xAk,Nat.reduceDiv,Nat.reduceMod,WP,xAT,xAM,xBm,xBl,xBk,xAP,xAS,xAN,W2,xAe,xAf,xAh,Nat.reduceAdd,Nat.reduceSub,Nat.reduceLeDiff,Nat.reduceMul,Int.reduceAdd,Int.reduceSub,Int.reduceMul,Int.reduceLT,Int.reduceLE,Int.reduceEq,Int.reduceToNat,Int.reduceNeg,Nat.reduceEqDiff,Nat.reduceBEq,Nat.reduceLT,xAb,xAJ,xAv,xAw,lfs_at0',xAa,xAs,xAx,xAy,xAQ,xAR,xA1,xAY,xAZ,xA5,xIo,xKu,hp,hlt,hat,hg0,hG,hbl,hxl,hyl,la,laI,lb,lbI,lc,lcI,ata,atb,same]
  ·have c1' : X.getD xl false = false := by simpa using c1
   rw [c1'] at ata
   refine ⟨Blk.cells false false [.int .i64 (xl : Nat),.int .i64 (xr : Nat),.int .i64 (xt : Nat),.int .u8 (up : Nat),.int .u8 (un : Nat)] :: T1,?_⟩
   rw [stS,if_neg (fun h => c1 (by simpa using h.1))]
   clear more hsc
   generalize blz B = LB at *
   generalize blz X = LX at *
   generalize blz Y = LY at *
   rw [xNN]
   simp (maxSteps := 30000000) (disch := first | assumption | omega | (simp only [WL,AV.isCell,xAb,xAa,xAL] <;> omega) | rfl | decide) only [↓reduceIte,WB,xAW,xAd,xAV,xAm,xAl,AV.cells,AV.isCell,xAc,xAi,xAj,xAz,xAA,xAB,xAC,xAD,xAE,xAX,xAF,xAG,xAn,xAH,xAo,xAp,xAI,xAq,xAr,xAk,Nat.reduceDiv,Nat.reduceMod,WP,xAT,xAM,xBm,xBl,xBk,xAP,xAS,xAN,W2,xAe,xAf,xAh,Nat.reduceAdd,Nat.reduceSub,Nat.reduceLeDiff,Nat.reduceMul,Int.reduceAdd,Int.reduceSub,Int.reduceMul,Int.reduceLT,Int.reduceLE,Int.reduceEq,Int.reduceToNat,Int.reduceNeg,Nat.reduceEqDiff,Nat.reduceBEq,Nat.reduceLT,xAb,xAJ,xAv,xAw,lfs_at0',xAa,xAs,xAx,xAy,xAQ,xAR,xA1,xAY,xAZ,xA5,xIo,xKu,hp,hlt,hat,hg0,hG,hbl,hxl,hyl,la,laI,lb,lbI,lc,lcI,ata,same]
def stT (B : List Bool) (u : Rl) : List Bool := if B.getD u.l.toNat false = true ∧ B.getD u.r.toNat false = true then B.set u.t.toNat true else B
def stU (S B : List Bool) (u : Rl) : List Bool := if B.getD u.t.toNat false = true ∧ S.getD u.l.toNat false = true ∧ S.getD u.r.toNat false = true then (B.set u.l.toNat true).set u.r.toNat true else B
theorem xPY (B : List Bool) (u : Rl) : Le B (stT B u) := by
 unfold stT; split
 ·exact xXU _ _
 ·exact Le.refl _
theorem xPZ (S B : List Bool) (u : Rl) : Le B (stU S B u) := by
 unfold stU; split
 ·exact (xXU _ _).trans (xXU _ _)
 ·exact Le.refl _
def xDR (s : Nat) (n : Aut) : List Bool := xD9 stT n.rl s (xFM (n.st.map Int.toNat) (List.replicate s false))
theorem xHE (s : Nat) (n : Aut) : (xDR s n).length = s := by
 unfold xDR
 rw [← (xJF xPY n.rl s _).len,xFl,List.length_replicate]
theorem xP0 {n : Aut} {s w : Nat} (hr : RlS s n.rl) (hq : ∀ q ∈ n.st,0 ≤ q ∧ q < (s : Int)) (h1 : xDB w n.rl = w) (h2 : ∀ j,(xCW 0 n.st).testBit j = true → w.testBit j = true)
  (h3 : ∀ U,Clo n.rl U → (∀ j,(xCW 0 n.st).testBit j = true → U j = true) → ∀ j,w.testBit j = true → U j = true) (j : Nat) : (xDR s n).getD j false = w.testBit j := by
 obtain ⟨i1,i2⟩ := xMA hq
 have hst : ∀ j,(xFM (n.st.map Int.toNat) (List.replicate s false)).getD j false = (xCW 0 n.st).testBit j := fun j => by
  rw [xMz _ j (by rw [List.length_replicate]; exact i1),xJG,Bool.or_false,i2,xD8 _ _ _ (fun q h => (hq q h).1),Nat.zero_testBit,Bool.false_or]
 have hc := xP2 _ _ h1
 rw [Bool.eq_iff_iff]
 constructor
 ·refine xMy (U := fun j => w.testBit j) (fun u hu B hB j hj => ?_) s (fun j hj => h2 j ((hst j).symm.trans hj)) j
  unfold stT at hj
  split at hj
  ·rename_i e
   rw [xCx,Bool.or_eq_true,decide_eq_true_eq] at hj
   rcases hj with ⟨rfl,_⟩ | hj
   ·exact hc u hu (hB _ e.1) (hB _ e.2)
   ·exact hB j hj
  ·exact hB j hj
 ·refine h3 (fun j => (xDR s n).getD j false) (fun u hu a b => ?_) (fun j hj => (xJF xPY n.rl s _).sub j ((hst j).trans hj)) j
  have hf := xMw xPY (xMx xPY n.rl s (xFM (n.st.map Int.toNat) (List.replicate s false)) (by rw [xFl,List.length_replicate]; omega)) u hu
  have hl := xHE s n
  have hut := (hr.h u hu).2.2.1
  unfold xDR at a b ⊢
  unfold xDR at hl
  rw [stT,if_pos ⟨a,b⟩] at hf
  show (xD9 stT n.rl s (xFM (n.st.map Int.toNat) (List.replicate s false))).getD u.t.toNat false = true
  rw [← hf,xCx,hl]
  have : u.t.toNat < s := by omega
  simp [this]
def putS (S : List Bool) : List Nat → List Bool → List Bool
 | [],B => B
 | q :: l,B => putS S l (B.set q (S.getD q false))
theorem xHF (S : List Bool) : ∀ (l : List Nat) (B : List Bool),(putS S l B).length = B.length
 | [],B => rfl
 | q :: l,B => by rw [putS,xHF,List.length_set]
theorem xTe {S : List Bool} : ∀ (l : List Nat) {B : List Bool} (j : Nat),(∀ q ∈ l,q < B.length) → (∀ j,B.getD j false = true → S.getD j false = true) → (putS S l B).getD j false = ((decide (j ∈ l) && S.getD j false) || B.getD j false)
 | [],B,j,h,_ => by simp [putS]
 | q :: l,B,j,h,hB => by
  have h0 := h q List.mem_cons_self
  have xC9 : ∀ j,(B.set q (S.getD q false)).getD j false = if j = q then S.getD q false else B.getD j false := fun j => by
   rw [List.getD_eq_getElem?_getD,List.getElem?_set,List.getD_eq_getElem?_getD]
   by_cases e : q = j
   ·subst e; simp [h0]
   ·rw [if_neg e,if_neg (fun x => e x.symm)]; rw [List.getD_eq_getElem?_getD]
  rw [putS,xTe l j (fun x hx => by rw [List.length_set]; exact h x (List.mem_cons_of_mem _ hx)) (fun j hj => by
   rw [xC9] at hj
   split at hj
   ·rename_i e; rw [e]; exact hj
   ·exact hB j hj),xC9]
  by_cases e : j = q
  ·subst e
   have := hB j
   cases h1 : B.getD j false <;> cases h2 : S.getD j false <;> simp_all
  ·simp [e]
def xUh (s : Nat) (n : Aut) (S : List Bool) : List Bool := xD9 (stU S) n.rl s (putS S (n.fi.map Int.toNat) (List.replicate s false))
theorem xMB (s : Nat) (n : Aut) (S : List Bool) : (xUh s n S).length = s := by
 unfold xUh
 rw [← (xJF (xPZ S) n.rl s _).len,xHF,List.length_replicate]
theorem xXY {n : Aut} {s S w : Nat} (hr : RlS s n.rl) (hq : ∀ q ∈ n.st,0 ≤ q ∧ q < (s : Int)) (hf : ∀ q ∈ n.fi,0 ≤ q ∧ q < (s : Int)) (h : Use n S w) (j : Nat) : (xUh s n (xDR s n)).getD j false = w.testBit j := by
 have hS : ∀ j,(xDR s n).getD j false = S.testBit j := xP0 hr hq h.sfix h.semp h.smin
 obtain ⟨i1,i2⟩ := xMA hf
 have hst : ∀ j,(putS (xDR s n) (n.fi.map Int.toNat) (List.replicate s false)).getD j false = ((xCW 0 n.fi).testBit j && S.testBit j) := fun j => by
  rw [xTe _ j (by rw [List.length_replicate]; exact i1) (fun j hj => by rw [xJG] at hj; cases hj),xJG,Bool.or_false,i2,xD8 _ _ _ (fun q h => (hf q h).1),Nat.zero_testBit,Bool.false_or,hS]
 rw [Bool.eq_iff_iff]
 constructor
 ·refine xMy (U := fun j => w.testBit j) (fun u hu B hB j hj => ?_) s (fun j hj => ?_) j
  ·unfold stU at hj
   split at hj
   ·rename_i e
    obtain ⟨e1,e2,e3⟩ := e
    rw [hS] at e2 e3
    have hc := h.wfix u hu (hB _ e1) e2 e3
    rw [xCx,xCx,Bool.or_eq_true,Bool.or_eq_true,decide_eq_true_eq,decide_eq_true_eq] at hj
    rcases hj with ⟨rfl,_⟩ | ⟨rfl,_⟩ | hj
    ·exact hc.2
    ·exact hc.1
    ·exact hB j hj
   ·exact hB j hj
  ·rw [hst,Bool.and_eq_true] at hj
   exact h.wfin j hj.1 hj.2
 ·refine h.wmin (fun j => (xUh s n (xDR s n)).getD j false) (fun u hu a b c => ?_) (fun j h1 h2 => (xJF (xPZ _) n.rl s _).sub j ((hst j).trans (by rw [h1,h2]; rfl))) j
  have hfx := xMw (xPZ (xDR s n)) (xMx (xPZ (xDR s n)) n.rl s (putS (xDR s n) (n.fi.map Int.toNat) (List.replicate s false)) (by rw [xHF,List.length_replicate]; omega)) u hu
  have hl := xMB s n (xDR s n)
  have hu1 := hr.h u hu
  have b := (hS _).trans b
  have c := (hS _).trans c
  unfold xUh at a hl ⊢
  rw [stU,if_pos ⟨a,b,c⟩] at hfx
  show (xD9 (stU (xDR s n)) n.rl s (putS (xDR s n) (n.fi.map Int.toNat) (List.replicate s false))).getD u.l.toNat false = true ∧ (xD9 (stU (xDR s n)) n.rl s (putS (xDR s n) (n.fi.map Int.toNat) (List.replicate s false))).getD u.r.toNat false = true
  have k1 : u.l.toNat < s := by omega
  have k2 : u.r.toNat < s := by omega
  constructor
  ·rw [← hfx,xCx,xCx,hl]
   simp [k1]
  ·rw [← hfx,xCx,List.length_set,hl]
   simp [k2]
theorem xLR {X Y : List Bool} {l r x s : Nat} (hX : ∀ j,X.getD j false = l.testBit j) (hY : ∀ j,Y.getD j false = r.testBit j) : ∀ (rl : List Rl) (B : List Bool) (a : Nat),RlS s rl → B.length = s → (∀ j,B.getD j false = a.testBit j) → ∀ j,(xB5 (stS X Y x) rl B).getD j false = (toM l r x a rl).testBit j
 | [],B,a,_,_,h,j => h j
 | u :: rl,B,a,hr,hl,h,j => by
  have hu := hr.h u List.mem_cons_self
  rw [xB5,toM]
  refine xLR hX hY rl _ _ ⟨fun v hv => hr.h v (List.mem_cons_of_mem _ hv)⟩ (by rw [xXW]; exact hl) (fun j => ?_) j
  unfold stS hit
  rw [hX,hY]
  by_cases c : l.testBit u.l.toNat = true ∧ r.testBit u.r.toNat = true ∧ xZL u.p u.n x = true
  ·rw [if_pos c,if_pos (by rw [c.1,c.2.1,c.2.2]; rfl),xCx,Nat.testBit_or,Nat.testBit_two_pow,h]
   have : u.t.toNat < B.length := by omega
   by_cases e : j = u.t.toNat
   ·subst e; simp [this]
   ·have e' : ¬ u.t.toNat = j := fun q => e q.symm
    simp [e,e']
  ·rw [if_neg c,if_neg (fun q => c (by simpa [and_assoc] using q)),h]
section
variable {n : Aut} {s : Nat} {z : Bool} {t : List Lf}
set_option maxHeartbeats 2000000 in
theorem xTf (hn : n.states = (s : Nat)) (hs : s ≤ 64) (h1 : n.st.length < 1000000) (hl : n.rl.length < 1000000) (hq : ∀ q ∈ n.st,0 ≤ q ∧ q < (s : Int)) (hr : RlS s n.rl) (htl : t.length < 1000000) (hx : ∀ e ∈ t,e.x < 256) {c : Int} {m k : Nat} {T : BT} (h : Sub t c m T k) :
  ∃ B,L.pcall 52 [n.av,tw z t,.int .i64 c] = some (.sl false s (blz B)) ∧ B.length = s ∧ ∀ j,B.getD j false = (ev (xCW 0 n.st) n.rl T).testBit j := by
 have h85 := xXV n hn hs
 induction h with
 | none m =>
  obtain ⟨i1,i2⟩ := xMA hq
  have hp := yEI (n := n) (p := 0) (b := 1) (by decide) h1 hs hq n.st.length 0 (List.replicate s false) [.cells false false n.cells,.cells false false (blz (List.replicate s false))] (by omega) (by simp) rfl rfl
  simp only [Int.natCast_zero,List.drop_zero] at hp
  refine ⟨xFM (n.st.map Int.toNat) (List.replicate s false),?_,by rw [xFl,List.length_replicate],fun j => ?_⟩
  ·have hlen : (xFM (n.st.map Int.toNat) (List.replicate s false)).length = s := by rw [xFl,List.length_replicate]
   have ht := xHD (xFM (n.st.map Int.toNat) (List.replicate s false))
   have hbl := xAL (xFM (n.st.map Int.toNat) (List.replicate s false))
   have hfz := fun d H => xAY d H (xFM (n.st.map Int.toNat) (List.replicate s false))
   rw [hlen] at ht hbl
   generalize blz (xFM (n.st.map Int.toNat) (List.replicate s false)) = LB at *
   rw [yF1,a52,xAu]
   simp (maxSteps := 30000000) (disch := first | assumption | omega | (simp only [WL,AV.isCell,xAb,xAa,xAL] <;> omega) | rfl | decide) only [↓reduceIte,WB,xAW,xAd,xAV,xAm,xAl,AV.cells,AV.isCell,xAc,xAi,xAj,xAz,xAA,xAB,xAC,xAD,xAE,xAX,xAF,xAG,xAn,xAH,xAo,xAp,xAI,xAq,xAr,xAk,Nat.reduceDiv,Nat.reduceMod,WP,xAT,xAM,xBm,xBl,xBk,xAP,xAS,xAN,W2,xAe,xAf,xAh,Nat.reduceAdd,Nat.reduceSub,Nat.reduceLeDiff,Nat.reduceMul,Int.reduceAdd,Int.reduceSub,Int.reduceMul,Int.reduceLT,Int.reduceLE,Int.reduceEq,Int.reduceToNat,Int.reduceNeg,Nat.reduceEqDiff,Nat.reduceBEq,Nat.reduceLT,xAb,xAJ,xAv,xAw,lfs_at0',xAa,xAs,xAx,xAy,xAQ,xAR,xA1,xAY,xAZ,xA5,h85,xVj,hp,ht,hbl,hfz]
  ·rw [xMz _ j (by rw [List.length_replicate]; exact i1),xJG,Bool.or_false,i2,ev,xD8 _ _ _ (fun q h => (hq q h).1),Nat.zero_testBit,Bool.false_or]
 | @some m k n' l r hm hL hR ihl ihr =>
  obtain ⟨X,hX,lX,bX⟩ := ihl
  obtain ⟨Y,hY,lY,bY⟩ := ihr
  have hxm := hx _ (xHC hm)
  obtain ⟨T,hp⟩ := xXX (n := n) (zt := z) (t := t) (m := m) (p := 0) (b := 1) (X := X) (Y := Y) (by decide) hs hl hr htl hm hxm lX lY n.rl.length 0 (List.replicate s false) [.cells false false n.cells,.cells false false (blz (List.replicate s false))] (by omega) (by simp) rfl rfl
  simp only [Int.natCast_zero,List.drop_zero] at hp
  refine ⟨xB5 (stS X Y (t.getD m f0).x) n.rl (List.replicate s false),?_,by rw [xJH,List.length_replicate],fun j => ?_⟩
  ·have hlen : (xB5 (stS X Y (t.getD m f0).x) n.rl (List.replicate s false)).length = s := by rw [xJH,List.length_replicate]
   have ht := xHD (xB5 (stS X Y (t.getD m f0).x) n.rl (List.replicate s false))
   have hbl := xAL (xB5 (stS X Y (t.getD m f0).x) n.rl (List.replicate s false))
   have hfz := fun d H => xAY d H (xB5 (stS X Y (t.getD m f0).x) n.rl (List.replicate s false))
   rw [hlen] at ht hbl
   generalize blz (xB5 (stS X Y (t.getD m f0).x) n.rl (List.replicate s false)) = LB at *
   have hmI : (m : Int) < (t.length : Nat) := by omega
   have a1 := xAv hm
   have a2 := xAw hm
   generalize (t.getD m f0).l = xl at *
   generalize (t.getD m f0).r = xr at *
   rw [yF1,a52,xAu]
   simp (maxSteps := 30000000) (disch := first | assumption | omega | (simp only [WL,AV.isCell,xAb,xAa,xAL] <;> omega) | rfl | decide) only [↓reduceIte,WB,xAW,xAd,xAV,xAm,xAl,AV.cells,AV.isCell,xAc,xAi,xAj,xAz,xAA,xAB,xAC,xAD,xAE,xAX,xAF,xAG,xAn,xAH,xAo,xAp,xAI,xAq,xAr,xAk,Nat.reduceDiv,Nat.reduceMod,WP,xAT,xAM,xBm,xBl,xBk,xAP,xAS,xAN,W2,xAe,xAf,xAh,Nat.reduceAdd,Nat.reduceSub,Nat.reduceLeDiff,Nat.reduceMul,Int.reduceAdd,Int.reduceSub,Int.reduceMul,Int.reduceLT,Int.reduceLE,Int.reduceEq,Int.reduceToNat,Int.reduceNeg,Nat.reduceEqDiff,Nat.reduceBEq,Nat.reduceLT,xAb,xAJ,xAv,xAw,lfs_at0',xAa,xAs,xAx,xAy,xAQ,xAR,xA1,xAY,xAZ,xA5,h85,hm,hmI,a1,a2,hX,hY,xKu,hp,ht,hbl,hfz]
  ·exact xLR bX bY n.rl _ 0 hr (by simp) (fun j => by rw [xJG,Nat.zero_testBit]) j
end
theorem yEJ (z : Bool) (t : List Lf) (hl : t.length < 1099511627776) : L.pcall 53 [tw z t] = some (.int .i64 (if t.length = 0 then -1 else 0)) := by
 have e0 : (((t.length : Nat) : Int) = 0) = (t.length = 0) := propext ⟨fun h => by omega,fun h => by omega⟩
 rw [yG4,a53,xAu]
 by_cases c : t.length = 0
 ·simp (maxSteps := 30000000) (disch := first | assumption | omega | (simp only [WL,AV.isCell,xAb,xAa,xAL] <;> omega) | rfl | decide) only [↓reduceIte,WB,xAW,xAd,xAV,xAm,xAl,AV.cells,AV.isCell,xAc,xAi,xAj,xAz,xAA,xAB,xAC,xAD,xAE,xAX,xAF,xAG,xAn,xAH,xAo,xAp,xAI,xAq,xAr,xAk,Nat.reduceDiv,Nat.reduceMod,WP,xAT,xAM,xBm,xBl,xBk,xAP,xAS,xAN,W2,xAe,xAf,xAh,Nat.reduceAdd,Nat.reduceSub,Nat.reduceLeDiff,Nat.reduceMul,Int.reduceAdd,Int.reduceSub,Int.reduceMul,Int.reduceLT,Int.reduceLE,Int.reduceEq,Int.reduceToNat,Int.reduceNeg,Nat.reduceEqDiff,Nat.reduceBEq,Nat.reduceLT,xAb,xAJ,xAv,xAw,lfs_at0',xAa,xAs,xAx,xAy,xAQ,xAR,xA1,xAY,xAZ,xA5,e0,c]
 ·simp (maxSteps := 30000000) (disch := first | assumption | omega | (simp only [WL,AV.isCell,xAb,xAa,xAL] <;> omega) | rfl | decide) only [↓reduceIte,WB,xAW,xAd,xAV,xAm,xAl,AV.cells,AV.isCell,xAc,xAi,xAj,xAz,xAA,xAB,xAC,xAD,xAE,xAX,xAF,xAG,xAn,xAH,xAo,xAp,xAI,xAq,xAr,xAk,Nat.reduceDiv,Nat.reduceMod,WP,xAT,xAM,xBm,xBl,xBk,xAP,xAS,xAN,W2,xAe,xAf,xAh,Nat.reduceAdd,Nat.reduceSub,Nat.reduceLeDiff,Nat.reduceMul,Int.reduceAdd,Int.reduceSub,Int.reduceMul,Int.reduceLT,Int.reduceLE,Int.reduceEq,Int.reduceToNat,Int.reduceNeg,Nat.reduceEqDiff,Nat.reduceBEq,Nat.reduceLT,xAb,xAJ,xAv,xAw,lfs_at0',xAa,xAs,xAx,xAy,xAQ,xAR,xA1,xAY,xAZ,xA5,e0,c]
def wL : Nat → List Bool → Nat → Nat
 | _,[],w => w
 | i,b :: r,w => wL (i + 1) r (if b = true then w + 2 ^ i else w)
theorem yEK {w i : Nat} (h : w < 2 ^ i) : w + 2 ^ i = w ||| 2 ^ i := by
 have := Nat.two_pow_add_eq_or_of_lt h 1
 rw [Nat.mul_one] at this
 rw [Nat.add_comm,this,Nat.or_comm]
theorem yEL : ∀ (r : List Bool) (i w : Nat),w < 2 ^ i → wL i r w < 2 ^ (i + r.length)
 | [],i,w,h => h
 | b :: r,i,w,h => by
  have e : i + (b :: r).length = i + 1 + r.length := by rw [List.length_cons]; omega
  rw [wL,e]
  refine yEL r (i + 1) _ ?_
  rw [Nat.pow_succ]
  split <;> omega
theorem yBn : ∀ (r : List Bool) (i w j : Nat),w < 2 ^ i → (wL i r w).testBit j = (w.testBit j || (decide (i ≤ j) && r.getD (j - i) false))
 | [],i,w,j,h => by simp [wL]
 | b :: r,i,w,j,h => by
  have h' : (if b = true then w + 2 ^ i else w) < 2 ^ (i + 1) := by rw [Nat.pow_succ]; split <;> omega
  rw [wL,yBn r (i + 1) _ j h']
  have e : (if b = true then w + 2 ^ i else w).testBit j = (w.testBit j || (b && decide (i = j))) := by
   cases b with
   | true => rw [if_pos rfl,yEK h,Nat.testBit_or,Nat.testBit_two_pow,Bool.true_and]
   | false => simp
  rw [e]
  rcases Nat.lt_trichotomy i j with q | q | q
  ·obtain ⟨k,rfl⟩ : ∃ k,j = i + 1 + k := ⟨j - i - 1,by omega⟩
   have a1 : i + 1 + k - i = k + 1 := by omega
   have a2 : i + 1 + k - (i + 1) = k := by omega
   have a3 : ¬ i = i + 1 + k := by omega
   rw [a1,a2]
   simp [a3,show i ≤ i + 1 + k by omega]
  ·subst q
   have a3 : ¬ i + 1 ≤ i := by omega
   simp [a3]
  ·have a1 : ¬ i = j := by omega
   have a2 : ¬ i + 1 ≤ j := by omega
   have a3 : ¬ i ≤ j := by omega
   simp [a1,a2,a3]
theorem xGS {B : List Bool} {H : Heap} (hs : B.length ≤ 64) : ∀ d i w,i + d = B.length → w < 2 ^ i →
  L.loop xNG xYT ⟨xNH (.sl false B.length (blz B)) (.int .u64 (w : Nat)) (.int .i64 (i : Nat)),H⟩ = some (.exit 0,⟨xNH (.sl false B.length (blz B)) (.int .u64 (wL i (B.drop i) w : Nat)) (.int .i64 (B.length : Nat)),H⟩)
 | 0,i,w,h,hw => by
  obtain rfl : i = B.length := by omega
  rw [List.drop_length,wL,xVi]
  simp (maxSteps := 30000000) (disch := first | assumption | omega | (simp only [WL,AV.isCell,xAb,xAa,xAL] <;> omega) | rfl | decide) only [↓reduceIte,WB,xAW,xAd,xAV,xAm,xAl,AV.cells,AV.isCell,xAc,xAi,xAj,xAz,xAA,xAB,xAC,xAD,xAE,xAX,xAF,xAG,xAn,xAH,xAo,xAp,xAI,xAq,xAr,xAk,Nat.reduceDiv,Nat.reduceMod,WP,xAT,xAM,xBm,xBl,xBk,xAP,xAS,xAN,W2,xAe,xAf,xAh,Nat.reduceAdd,Nat.reduceSub,Nat.reduceLeDiff,Nat.reduceMul,Int.reduceAdd,Int.reduceSub,Int.reduceMul,Int.reduceLT,Int.reduceLE,Int.reduceEq,Int.reduceToNat,Int.reduceNeg,Nat.reduceEqDiff,Nat.reduceBEq,Nat.reduceLT,xAb,xAJ,xAv,xAw,lfs_at0',xAa,xAs,xAx,xAy,xAQ,xAR,xA1,xAY,xAZ,xA5,xNF,xNI]
 | d + 1,i,w,h,hw => by
  have hlt : (i : Int) < (B.length : Nat) := by omega
  have hi : i < B.length := by omega
  have hat := xA1 hi
  have hd : B.drop i = B.getD i false :: B.drop (i + 1) := by
   rw [List.drop_eq_getElem_cons hi]
   simp [List.getD,List.getElem?_eq_getElem hi]
  have hbl := xAL B
  have hsh := xUa (show i < 64 by omega)
  have hp := xJv (show i < 64 by omega)
  have hw2 : w < 2 ^ (i + 1) := by rw [Nat.pow_succ]; omega
  have hw3 : w + 2 ^ i < 2 ^ (i + 1) := by rw [Nat.pow_succ]; omega
  have h64 : (2 : Nat) ^ (i + 1) ≤ 2 ^ 64 := Nat.pow_le_pow_right (by decide) (by omega)
  have hwr : IntKind.u64.wrap (((w : Nat) : Int) + ((2 ^ i : Nat) : Int)) = ((w + 2 ^ i : Nat) : Int) := by rw [IntKind.wrap_u64]; omega
  rw [hd,wL]
  cases c : B.getD i false with
  | true =>
   rw [c] at hat
   have ih := xGS (H := H) hs d (i + 1) (w + 2 ^ i) (by omega) hw3
   rw [if_pos rfl]
   rw [xVi]
   simp (maxSteps := 30000000) (disch := first | assumption | omega | (simp only [WL,AV.isCell,xAb,xAa,xAL] <;> omega) | rfl | decide) only [↓reduceIte,WB,xAW,xAd,xAV,xAm,xAl,AV.cells,AV.isCell,xAc,xAi,xAj,xAz,xAA,xAB,xAC,xAD,xAE,xAX,xAF,xAG,xAn,xAH,xAo,xAp,xAI,xAq,xAr,xAk,Nat.reduceDiv,Nat.reduceMod,WP,xAT,xAM,xBm,xBl,xBk,xAP,xAS,xAN,W2,xAe,xAf,xAh,Nat.reduceAdd,Nat.reduceSub,Nat.reduceLeDiff,Nat.reduceMul,Int.reduceAdd,Int.reduceSub,Int.reduceMul,Int.reduceLT,Int.reduceLE,Int.reduceEq,Int.reduceToNat,Int.reduceNeg,Nat.reduceEqDiff,Nat.reduceBEq,Nat.reduceLT,xAb,xAJ,xAv,xAw,lfs_at0',xAa,xAs,xAx,xAy,xAQ,xAR,xA1,xAY,xAZ,xA5,xNF,xNI,hlt,hat,hsh,hwr,ih]
  | false =>
   rw [c] at hat
   have ih := xGS (H := H) hs d (i + 1) w (by omega) hw2
   rw [if_neg (by simp)]
   rw [xVi]
   simp (maxSteps := 30000000) (disch := first | assumption | omega | (simp only [WL,AV.isCell,xAb,xAa,xAL] <;> omega) | rfl | decide) only [↓reduceIte,WB,xAW,xAd,xAV,xAm,xAl,AV.cells,AV.isCell,xAc,xAi,xAj,xAz,xAA,xAB,xAC,xAD,xAE,xAX,xAF,xAG,xAn,xAH,xAo,xAp,xAI,xAq,xAr,xAk,Nat.reduceDiv,Nat.reduceMod,WP,xAT,xAM,xBm,xBl,xBk,xAP,xAS,xAN,W2,xAe,xAf,xAh,Nat.reduceAdd,Nat.reduceSub,Nat.reduceLeDiff,Nat.reduceMul,Int.reduceAdd,Int.reduceSub,Int.reduceMul,Int.reduceLT,Int.reduceLE,Int.reduceEq,Int.reduceToNat,Int.reduceNeg,Nat.reduceEqDiff,Nat.reduceBEq,Nat.reduceLT,xAb,xAJ,xAv,xAw,lfs_at0',xAa,xAs,xAx,xAy,xAQ,xAR,xA1,xAY,xAZ,xA5,xNF,xNI,hlt,hat,ih]
theorem yEM {B : List Bool} (hs : B.length ≤ 64) : ∃ z r,L.pcall 51 [.sl false B.length (blz B)] = some (sw z r) ∧ CanS r (fun j => B.getD j false) := by
 have h := xGS (H := []) hs B.length 0 0 (by omega) (by simp)
 simp only [Int.natCast_zero,List.drop_zero] at h
 have hlt := yEL B 0 0 (by simp)
 have hbit := fun j => yBn B 0 0 j (by simp)
 simp only [Nat.zero_testBit,Bool.false_or,Nat.zero_le,decide_true,Bool.true_and,Nat.sub_zero] at hbit
 generalize wL 0 B 0 = w at *
 have hw64 : w < 18446744073709551616 := Nat.lt_of_lt_of_le hlt (Nat.le_trans (Nat.pow_le_pow_right (by decide) (by omega : 0 + B.length ≤ 64)) (by decide))
 have e0 : ((((w : Nat) : Int) = 0)) = (w = 0) := propext ⟨fun h => by omega,fun h => by omega⟩
 by_cases c : w = 0
 ·refine ⟨true,[],?_,?_⟩
  ·show _ = some (AV.sl true 0 [])
   rw [yF0,a51,xAu]
   simp (maxSteps := 30000000) (disch := first | assumption | omega | (simp only [WL,AV.isCell,xAb,xAa,xAL] <;> omega) | rfl | decide) only [↓reduceIte,WB,xAW,xAd,xAV,xAm,xAl,AV.cells,AV.isCell,xAc,xAi,xAj,xAz,xAA,xAB,xAC,xAD,xAE,xAX,xAF,xAG,xAn,xAH,xAo,xAp,xAI,xAq,xAr,xAk,Nat.reduceDiv,Nat.reduceMod,WP,xAT,xAM,xBm,xBl,xBk,xAP,xAS,xAN,W2,xAe,xAf,xAh,Nat.reduceAdd,Nat.reduceSub,Nat.reduceLeDiff,Nat.reduceMul,Int.reduceAdd,Int.reduceSub,Int.reduceMul,Int.reduceLT,Int.reduceLE,Int.reduceEq,Int.reduceToNat,Int.reduceNeg,Nat.reduceEqDiff,Nat.reduceBEq,Nat.reduceLT,xAb,xAJ,xAv,xAw,lfs_at0',xAa,xAs,xAx,xAy,xAQ,xAR,xA1,xAY,xAZ,xA5,xNI,h,e0,c]
  ·exact canS_nil.congr fun j => by rw [← hbit,c,Nat.zero_testBit]
 ·refine ⟨false,[w],?_,?_⟩
  ·show _ = some (AV.sl false 1 [.int .u64 (w : Nat)])
   rw [yF0,a51,xAu]
   simp (maxSteps := 30000000) (disch := first | assumption | omega | (simp only [WL,AV.isCell,xAb,xAa,xAL] <;> omega) | rfl | decide) only [↓reduceIte,WB,xAW,xAd,xAV,xAm,xAl,AV.cells,AV.isCell,xAc,xAi,xAj,xAz,xAA,xAB,xAC,xAD,xAE,xAX,xAF,xAG,xAn,xAH,xAo,xAp,xAI,xAq,xAr,xAk,Nat.reduceDiv,Nat.reduceMod,WP,xAT,xAM,xBm,xBl,xBk,xAP,xAS,xAN,W2,xAe,xAf,xAh,Nat.reduceAdd,Nat.reduceSub,Nat.reduceLeDiff,Nat.reduceMul,Int.reduceAdd,Int.reduceSub,Int.reduceMul,Int.reduceLT,Int.reduceLE,Int.reduceEq,Int.reduceToNat,Int.reduceNeg,Nat.reduceEqDiff,Nat.reduceBEq,Nat.reduceLT,xAb,xAJ,xAv,xAw,lfs_at0',xAa,xAs,xAx,xAy,xAQ,xAR,xA1,xAY,xAZ,xA5,xNI,h,e0,c]
  ·refine ⟨fun x hx => ?_,by simp,fun _ => by simpa using c,fun j => ?_⟩
   ·simp only [List.mem_singleton] at hx
    rw [hx]; exact hw64
   ·unfold mem
    by_cases cj : j < 64
    ·rw [show j / 64 = 0 by omega,show j % 64 = j by omega]
     simp [show j < 4096 by omega,hbit]
    ·show _ = B.getD j false
     have e1 : ([w] : List Nat).getD (j / 64) 0 = 0 := xDI (by simp; omega)
     rw [e1,Nat.zero_testBit,Bool.and_false,List.getD_eq_getElem?_getD,List.getElem?_eq_none (by omega)]; rfl
end Go.Abs.Tree
