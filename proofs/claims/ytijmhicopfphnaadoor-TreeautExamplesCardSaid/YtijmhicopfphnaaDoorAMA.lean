/- A row of bools that grows by rounds: after as many rounds as it has places nothing changes. -/
import Derived.Test.YtijmhicopfphnaaDoorAbsEnc2
import Derived.Test.YtijmhicopfphnaaDoorAbsBun
import Derived.Test.YtijmhicopfphnaaDoorAB1
import Derived.Test.YtijmhicopfphnaaDoorAMM
import Derived.Test.YtijmhicopfphnaaDoorAMO
namespace Go.Abs.Tree
open Go Go.Abs
set_option linter.unusedSimpArgs false
set_option linter.unusedVariables false
structure Le (B C : List Bool) : Prop where
 len : B.length = C.length
 sub : ∀ j,B.getD j false = true → C.getD j false = true
theorem Le.refl (B : List Bool) : Le B B := ⟨rfl,fun _ h => h⟩
theorem Le.trans {B C D : List Bool} (h : Le B C) (k : Le C D) : Le B D := ⟨h.len.trans k.len,fun j q => k.sub j (h.sub j q)⟩
theorem Le.anti : ∀ {B C : List Bool},Le B C → Le C B → B = C
 | [],[],_,_ => rfl
 | [],_ :: _,h,_ => by cases h.len
 | _ :: _,[],h,_ => by cases h.len
 | b :: B,c :: C,h,k => by
  have h0 := h.sub 0
  have k0 := k.sub 0
  simp only [List.getD_cons_zero] at h0 k0
  have e : b = c := by cases b <;> cases c <;> simp_all
  have : B = C := Le.anti ⟨by simpa using h.len,fun j q => by simpa using h.sub (j + 1) (by simpa using q)⟩ ⟨by simpa using k.len,fun j q => by simpa using k.sub (j + 1) (by simpa using q)⟩
  rw [e,this]
theorem Le.cnt : ∀ {B C : List Bool},Le B C → B.count true ≤ C.count true ∧ (B.count true = C.count true → B = C)
 | [],[],_ => ⟨Nat.le_refl _,fun _ => rfl⟩
 | [],_ :: _,h => by cases h.len
 | _ :: _,[],h => by cases h.len
 | b :: B,c :: C,h => by
  have h0 := h.sub 0
  simp only [List.getD_cons_zero] at h0
  obtain ⟨i1,i2⟩ := Le.cnt (B := B) (C := C) ⟨by simpa using h.len,fun j q => by simpa using h.sub (j + 1) (by simpa using q)⟩
  cases b <;> cases c
  ·simp only [List.count_cons_of_ne (show false ≠ true by decide)]
   exact ⟨i1,fun e => by rw [i2 e]⟩
  ·simp only [List.count_cons_of_ne (show false ≠ true by decide),List.count_cons_self]
   exact ⟨by omega,fun e => by omega⟩
  ·cases h0 rfl
  ·simp only [List.count_cons_self]
   exact ⟨by omega,fun e => by rw [i2 (by omega)]⟩
theorem yBe {B : List Bool} (h : B.length ≤ B.count true) : ∀ {C : List Bool},Le B C → C = B := fun {C} k => by
 have h1 := k.cnt
 have h2 := List.count_le_length (a := true) (l := C)
 have := k.len
 exact (h1.2 (by omega)).symm
section
variable {α : Type} {f : List Bool → α → List Bool}
def xHt (f : List Bool → α → List Bool) : List α → List Bool → List Bool
 | [],B => B
 | u :: l,B => xHt f l (f B u)
def xKk (f : List Bool → α → List Bool) (l : List α) : Nat → List Bool → List Bool
 | 0,B => B
 | k + 1,B => xKk f l k (xHt f l B)
theorem xLj (hf : ∀ B u,Le B (f B u)) : ∀ (l : List α) (B : List Bool),Le B (xHt f l B)
 | [],B => Le.refl B
 | u :: l,B => (hf B u).trans (xLj hf l (f B u))
theorem xOA (hf : ∀ B u,Le B (f B u)) (l : List α) : ∀ (k : Nat) (B : List Bool),Le B (xKk f l k B)
 | 0,B => Le.refl B
 | k + 1,B => (xLj hf l B).trans (xOA hf l k _)
theorem xQr (hf : ∀ B u,Le B (f B u)) : ∀ {l : List α} {B : List Bool},xHt f l B = B → ∀ u ∈ l,f B u = B
 | v :: l,B,h,u,hu => by
  have h1 := hf B v
  have h2 := xLj hf l (f B v)
  rw [show xHt f l (f B v) = B from h] at h2
  have e : f B v = B := h2.anti h1
  rcases List.mem_cons.1 hu with rfl | hu
  ·exact e
  ·exact xQr hf (by rw [show xHt f (v :: l) B = xHt f l (f B v) from rfl,e] at h; exact h) u hu
theorem xSP {l : List α} {B : List Bool} (h : xHt f l B = B) : ∀ k,xKk f l k B = B
 | 0 => rfl
 | k + 1 => by rw [xKk,h]; exact xSP h k
theorem xQs (hf : ∀ B u,Le B (f B u)) (l : List α) : ∀ (k : Nat) (B : List Bool),B.length ≤ B.count true + k → xHt f l (xKk f l k B) = xKk f l k B
 | 0,B,h => yBe h (xLj hf l B)
 | k + 1,B,h => by
  by_cases e : xHt f l B = B
  ·rw [xSP e]; exact e
  ·have h1 := (xLj hf l B).cnt
   have h2 := (xLj hf l B).len
   have : B.count true ≠ (xHt f l B).count true := fun q => e (h1.2 q).symm
   exact xQs hf l k _ (by omega)
theorem xU9 {U : Nat → Bool} : ∀ {l : List α} {B : List Bool},(∀ u ∈ l,∀ B,(∀ j,B.getD j false = true → U j = true) → ∀ j,(f B u).getD j false = true → U j = true) → (∀ j,B.getD j false = true → U j = true) → ∀ j,(xHt f l B).getD j false = true → U j = true
 | [],B,_,h,j,q => h j q
 | u :: l,B,hf,h,j,q => xU9 (l := l) (fun v hv => hf v (List.mem_cons_of_mem _ hv)) (hf u List.mem_cons_self B h) j q
theorem xQt {U : Nat → Bool} {l : List α} (hf : ∀ u ∈ l,∀ B,(∀ j,B.getD j false = true → U j = true) → ∀ j,(f B u).getD j false = true → U j = true) : ∀ (k : Nat) {B : List Bool},(∀ j,B.getD j false = true → U j = true) → ∀ j,(xKk f l k B).getD j false = true → U j = true
 | 0,B,h,j,q => h j q
 | k + 1,B,h,j,q => xQt hf k (xU9 hf h) j q
end
theorem xH6 (B : List Bool) (b j : Nat) : (B.set b true).getD j false = (decide (j = b ∧ b < B.length) || B.getD j false) := by
 rw [List.getD_eq_getElem?_getD,List.getElem?_set,List.getD_eq_getElem?_getD]
 by_cases e : b = j
 ·subst e
  by_cases h : b < B.length
  ·simp [h]
  ·simp [h]
 ·have : ¬ (j = b ∧ b < B.length) := fun h => e h.1.symm
  simp [e,this]
theorem xY3 (B : List Bool) (b : Nat) : Le B (B.set b true) := ⟨(List.length_set ..).symm,fun j h => by rw [xH6,h,Bool.or_true]⟩
def xLY : List Nat → List Bool → List Bool
 | [],B => B
 | q :: l,B => xLY l (B.set q true)
theorem xLx : ∀ (l : List Nat) (B : List Bool),(xLY l B).length = B.length
 | [],B => rfl
 | q :: l,B => by rw [xLY,xLx,List.length_set]
theorem xQu : ∀ (l : List Nat) {B : List Bool} (j : Nat),(∀ q ∈ l,q < B.length) → (xLY l B).getD j false = (decide (j ∈ l) || B.getD j false)
 | [],B,j,h => by simp [xLY]
 | q :: l,B,j,h => by
  have h0 := h q List.mem_cons_self
  rw [xLY,xQu l j (fun x hx => by rw [List.length_set]; exact h x (List.mem_cons_of_mem _ hx)),xH6]
  by_cases e : j = q
  ·subst e; simp [h0]
  ·simp [e]
theorem xOB (s j : Nat) : (List.replicate s false).getD j false = false := by
 rw [List.getD_eq_getElem?_getD,List.getElem?_replicate]; split <;> rfl
theorem xQv {l : List Int} {s : Nat} (h : ∀ q ∈ l,0 ≤ q ∧ q < (s : Int)) : (∀ q ∈ l.map Int.toNat,q < s) ∧ ∀ j : Nat,decide (j ∈ l.map Int.toNat) = l.contains (j : Int) := by
 refine ⟨fun q hq => ?_,fun j => ?_⟩
 ·obtain ⟨x,hx,rfl⟩ := List.mem_map.1 hq
  have := h x hx; omega
 ·rw [Bool.eq_iff_iff,decide_eq_true_eq,List.contains_iff_mem,List.mem_map]
  constructor
  ·rintro ⟨x,hx,e⟩
   have := h x hx
   rw [show (j : Int) = x by omega]; exact hx
  ·intro hx
   exact ⟨_,hx,by omega⟩
def blz (l : List Bool) : List AV := l.map AV.bool
theorem xAq (l : List Bool) : (blz l).length = l.length := by simp [blz]
theorem xFu {l : List Bool} {k : Nat} (h : k < l.length) : List.take 1 (List.drop k (blz l)) = [AV.bool (l.getD k false)] := by
 rw [List.drop_eq_getElem_cons (by simpa [blz] using h),List.take_succ_cons,List.take_zero]
 simp [blz,List.getD_eq_getElem?_getD,List.getElem?_eq_getElem h]
theorem xLX {l : List Bool} {k : Nat} {x : Bool} (h : k < l.length) : List.take k (blz l) ++ (AV.bool x :: List.drop (k + 1) (blz l)) = blz (l.set k x) := by
 unfold blz
 rw [List.map_set,List.set_eq_take_append_cons_drop,if_pos (by simpa using h)]
theorem yBf (n : Nat) : xJf [AV.bool false] n = blz (List.replicate n false) := by
 induction n with
 | zero => rfl
 | succ n ih => rw [List.replicate_succ]; simp only [xJf] at ih ⊢; rw [blz,List.map_cons]; first | (rw [← blz,← ih]; rfl) | simp [List.replicate_succ,← ih]
theorem xNt (l : List Bool) : List.take l.length (blz l) = blz l := List.take_of_length_le (by rw [xAq]; exact Nat.le_refl _)
theorem xGB (d : Nat) (H : Heap) (l : List Bool) : (blz l).mapM (frz d H) = some (blz l) := by
 induction l with
 | nil => rfl
 | cons e l ih =>
  have : blz (e :: l) = .bool e :: blz l := rfl
  rw [this,List.mapM_cons,ih]
  cases d <;> rfl
theorem xHT (d : Nat) (H : Heap) (l : List Bool) : (blz l).flatMap (bor d H) = [] := by
 induction l with
 | nil => rfl
 | cons e l ih =>
  have : blz (e :: l) = .bool e :: blz l := rfl
  rw [this,List.flatMap_cons,ih]
  cases d <;> rfl
theorem xHE (l : List Bool) : (blz l).all xEb = true := by
 rw [List.all_eq_true]; intro a ha; obtain ⟨x,_,rfl⟩ := List.mem_map.1 ha; rfl
theorem xHU {G : Heap} {o : Nat} {b : Blk} (h : G[o]? = some b) : G.set o b = G := by
 refine List.ext_getElem? fun j => ?_
 have lo := (List.getElem?_eq_some_iff.1 h).1
 by_cases e : j = o
 ·subst e; rw [List.getElem?_set_self lo,h]
 ·rw [List.getElem?_set_ne (fun h => e h.symm)]
theorem xY4 (n : Aut) {s : Nat} (hn : n.states = (s : Nat)) (hs : s ≤ 64) : xCG L 85 [n.av] = some (.own false 0 0 s 1,[.cells false false (blz (List.replicate s false))]) := by
 have hr := yBf s
 rw [xBI,yIh,a85,xAp]
 simp (maxSteps := 30000000) (disch := first | assumption | omega | (simp only [WL,AV.isCell,xAb,xAa,xAq] <;> omega) | rfl | decide) only [WB,Nat.reduceSub,AV.cells,AV.isCell,hn,↓reduceIte,hr,WP,xHE]
theorem yBg (x p n : Nat) (hx : x < 256) (hp : p < 256) (hn : n < 256) : L.pcall 41 [.int .u8 (x : Nat),.int .u8 (p : Nat),.int .u8 (n : Nat)] = some (.bool (yAM p n x)) := by
 have h1 := yEl hx hp
 have h2 := yEl hx hn
 have e1 : (((x &&& p : Nat) : Int) = ((p : Nat) : Int)) = (x &&& p = p) := propext ⟨fun h => by omega,fun h => by omega⟩
 have e2 : (((x &&& n : Nat) : Int) = 0) = (x &&& n = 0) := propext ⟨fun h => by omega,fun h => by omega⟩
 unfold yAM
 rw [yHZ,a41,xAd]
 by_cases c1 : x &&& p = p
 ·by_cases c2 : x &&& n = 0
  ·simp (disch := omega) only [WB,Nat.reduceAdd,Nat.reduceSub,h1,c1,↓reduceIte,h2,c2]
  ·simp (disch := omega) only [WB,Nat.reduceAdd,Nat.reduceSub,h1,c1,↓reduceIte,h2,e2,c2]
 ·by_cases c2 : x &&& n = 0
  ·simp (disch := omega) only [WB,Nat.reduceAdd,Nat.reduceSub,h1,e1,c1,↓reduceIte,c2]
  ·simp (disch := omega) only [WB,Nat.reduceAdd,Nat.reduceSub,h1,e1,c1,↓reduceIte,c2]
theorem yFy {n : Aut} {p b s : Nat} (hpb : p ≠ b) (hl : n.st.length < 1000000) (hs : s ≤ 64) (hq : ∀ q ∈ n.st,0 ≤ q ∧ q < (s : Int)) : ∀ d i B G,i + d = n.st.length → B.length = s → G[p]? = some (.cells false false n.cells) → G[b]? = some (.cells false false (blz B)) →
  L.loop xRG yAe ⟨xRH (.ptr p 0) (.own false b 0 s 1) (.int .i64 (i : Nat)),G⟩ =
   some (.exit 0,⟨xRH (.ptr p 0) (.own false b 0 s 1) (.int .i64 (n.st.length : Nat)),G.set b (.cells false false (blz (xLY ((n.st.drop i).map Int.toNat) B)))⟩)
 | 0,i,B,G,h,hB,hp,hG => by
  obtain rfl : i = n.st.length := by omega
  rw [List.drop_length,List.map_nil,xLY,xHU hG,yBD]
  simp (maxSteps := 30000000) (disch := first | assumption | omega | (simp only [WL,AV.isCell,xAb,xAa,xAq] <;> omega) | rfl | decide) only [xUg,WB,hp,↓reduceIte,xXo]
 | d + 1,i,B,G,h,hB,hp,hG => by
  have hlt : (i : Int) < (n.st.length : Nat) := by omega
  have hm : n.st.getD i 0 ∈ n.st := by
   rw [List.getD_eq_getElem?_getD,List.getElem?_eq_getElem (by omega)]
   exact List.getElem_mem _
  obtain ⟨h0,h1⟩ := hq _ hm
  rw [xHA (by omega : i < n.st.length),List.map_cons,xLY]
  generalize hx : n.st.getD i 0 = x at *
  obtain ⟨q,rfl⟩ := Int.eq_ofNat_of_zero_le h0
  have hqs : q < B.length := by omega
  have hst := xLX (x := true) hqs
  have hbl := xAq B
  rw [hB] at hbl
  have lo := (List.getElem?_eq_some_iff.1 hG).1
  have ih := yFy (n := n) (p := p) (b := b) (s := s) hpb hl hs hq d (i + 1) (B.set q true) (G.set b (.cells false false (blz (B.set q true)))) (by omega) (by simpa using hB) (by rw [List.getElem?_set_ne (fun e => hpb e.symm)]; exact hp) (by rw [List.getElem?_set_self lo])
  rw [List.set_set,← hst] at ih
  rw [Int.toNat_natCast]
  have hqs' : q < s := by omega
  have hqI : ((q : Nat) : Int) < (s : Nat) := by omega
  generalize blz B = LB at *
  rw [yBD]
  simp (maxSteps := 30000000) (disch := first | assumption | omega | (simp only [WL,AV.isCell,xAb,xAa,xAq] <;> omega) | rfl | decide) only [xUg,WB,hp,hlt,↓reduceIte,W2,hx,AV.cells,hG,xXo,ih]
def stS (X Y : List Bool) (x : Nat) (B : List Bool) (u : Rl) : List Bool := if X.getD u.l.toNat false = true ∧ Y.getD u.r.toNat false = true ∧ yAM u.p u.n x = true then B.set u.t.toNat true else B
theorem xY5 (X Y : List Bool) (x : Nat) (B : List Bool) (u : Rl) : (stS X Y x B u).length = B.length := by unfold stS; split <;> simp
theorem xOC (X Y : List Bool) (x : Nat) : ∀ (l : List Rl) (B : List Bool),(xHt (stS X Y x) l B).length = B.length
 | [],B => rfl
 | u :: l,B => by rw [xHt,xOC,xY5]
structure RlS (s : Nat) (rl : List Rl) : Prop where
 h : ∀ u ∈ rl,(0 ≤ u.l ∧ u.l < (s : Int)) ∧ (0 ≤ u.r ∧ u.r < (s : Int)) ∧ (0 ≤ u.t ∧ u.t < (s : Int)) ∧ u.p < 256 ∧ u.n < 256
theorem xJU {G X : Heap} {b : Nat} {x y : Blk} (h : G[b]? = some x) : (G ++ X).set b y = G.set b y ++ X := List.set_append_left _ _ (List.getElem?_eq_some_iff.1 h).1
set_option maxHeartbeats 4000000 in
theorem xY6 {n : Aut} {zt : Bool} {t : List Lf} {m p b s : Nat} {X Y : List Bool} (hpb : p ≠ b) (hs : s ≤ 64) (hl : n.rl.length < 1000000) (hr : RlS s n.rl) (htl : t.length < 1000000) (hm : m < t.length) (hx : (t.getD m f0).x < 256) (hX : X.length = s) (hY : Y.length = s) : ∀ d i B G,i + d = n.rl.length → B.length = s → G[p]? = some (.cells false false n.cells) → G[b]? = some (.cells false false (blz B)) →
  ∃ T,L.loop xRI yAf ⟨xRJ (tw zt t) (.int .i64 (m : Nat)) (.ptr p 0) (.own false b 0 s 1) (.sl false s (blz X)) (.sl false s (blz Y)) (.int .i64 (i : Nat)),G⟩ =
   some (.exit 2,⟨xRJ (tw zt t) (.int .i64 (m : Nat)) (.ptr p 0) (.own false b 0 s 1) (.sl false s (blz X)) (.sl false s (blz Y)) (.int .i64 (n.rl.length : Nat)),G.set b (.cells false false (blz (xHt (stS X Y (t.getD m f0).x) (n.rl.drop i) B))) ++ T⟩)
 | 0,i,B,G,h,hB,hp,hG => by
  obtain rfl : i = n.rl.length := by omega
  refine ⟨[],?_⟩
  rw [List.drop_length,xHt,xHU hG,List.append_nil,xRK]
  simp (maxSteps := 30000000) (disch := first | assumption | omega | (simp only [WL,AV.isCell,xAb,xAa,xAq] <;> omega) | rfl | decide) only [xN6,WB,hp,↓reduceIte,xPe]
 | d + 1,i,B,G,h,hB,hp,hG => by
  have hlt : (i : Int) < (n.rl.length : Nat) := by omega
  obtain ⟨⟨l0,l1⟩,⟨q0,q1⟩,⟨t0,t1⟩,p1,n1⟩ := hr.h _ (xIN (by omega : i < n.rl.length))
  have hc := yBg (t.getD m f0).x (n.rl.getD i r0).p (n.rl.getD i r0).n hx p1 n1
  have hat := xCF (show i < n.rl.length by omega)
  rw [xHR (by omega : i < n.rl.length),xHt]
  generalize n.rl.getD i r0 = u at *
  obtain ⟨ul,ur,ut,up,un⟩ := u
  simp only at l0 l1 q0 q1 t0 t1 p1 n1 hc hat
  obtain ⟨xl,rfl⟩ := Int.eq_ofNat_of_zero_le l0
  obtain ⟨xr,rfl⟩ := Int.eq_ofNat_of_zero_le q0
  obtain ⟨xt,rfl⟩ := Int.eq_ofNat_of_zero_le t0
  have la : xl < s := by omega
  have lb : xr < s := by omega
  have lc : xt < s := by omega
  have laI : ((xl : Nat) : Int) < (s : Nat) := by omega
  have lbI : ((xr : Nat) : Int) < (s : Nat) := by omega
  have lcI : ((xt : Nat) : Int) < (s : Nat) := by omega
  have lo := (List.getElem?_eq_some_iff.1 hG).1
  have hbl := xAq B
  rw [hB] at hbl
  have hxl := xAq X
  have hyl := xAq Y
  rw [hX] at hxl
  rw [hY] at hyl
  have ata := xFu (l := X) (k := xl) (by omega)
  have atb := xFu (l := Y) (k := xr) (by omega)
  have hsc := xLX (l := B) (k := xt) (x := true) (by omega)
  have hg0 : ∀ y : Blk,(G ++ [y])[b]? = some (.cells false false (blz B)) := fun y => xAu hG
  obtain ⟨T1,same⟩ := xY6 (zt := zt) (X := X) (Y := Y) hpb hs hl hr htl hm hx hX hY d (i + 1) B (G ++ [Blk.cells false false [.int .i64 (xl : Nat),.int .i64 (xr : Nat),.int .i64 (xt : Nat),.int .u8 (up : Nat),.int .u8 (un : Nat)]]) (by omega) hB (xAu hp) (xAu hG)
  obtain ⟨T2,more⟩ := xY6 (zt := zt) (X := X) (Y := Y) hpb hs hl hr htl hm hx hX hY d (i + 1) (B.set xt true) ((G ++ [Blk.cells false false [.int .i64 (xl : Nat),.int .i64 (xr : Nat),.int .i64 (xt : Nat),.int .u8 (up : Nat),.int .u8 (un : Nat)]]).set b (.cells false false (blz (B.set xt true)))) (by omega) (by simpa using hB) (by rw [List.getElem?_set_ne (fun h => hpb h.symm)]; exact xAu hp) (by rw [List.getElem?_set_self (by simp; omega)])
  rw [xJU hG,List.append_assoc] at same
  rw [List.set_set,xJU hG,xJU hG,List.append_assoc,← hsc] at more
  by_cases c1 : X.getD xl false = true
  ·by_cases c2 : Y.getD xr false = true
   ·cases c3 : yAM up un (t.getD m f0).x with
    | true =>
     rw [c1] at ata
     rw [c2] at atb
     rw [c3] at hc
     refine ⟨Blk.cells false false [.int .i64 (xl : Nat),.int .i64 (xr : Nat),.int .i64 (xt : Nat),.int .u8 (up : Nat),.int .u8 (un : Nat)] :: T2,?_⟩
     rw [stS,if_pos ⟨by simpa using c1,by simpa using c2,c3⟩]
     simp only [Int.toNat_natCast]
     clear same hsc
     generalize blz B = LB at *
     generalize blz X = LX at *
     generalize blz Y = LY at *
     rw [xRK]
     simp (maxSteps := 30000000) (disch := first | assumption | omega | (simp only [WL,AV.isCell,xAb,xAa,xAq] <;> omega) | rfl | decide) only [xN6,WB,hp,hlt,↓reduceIte,hat,AV.cells,AV.isCell,Nat.reduceAdd,ata,atb,lfs_at0',xAm,hc,xE0,xAJ,hg0,xJU hG,xPe,more]
    | false =>
     rw [c1] at ata
     rw [c2] at atb
     rw [c3] at hc
     refine ⟨Blk.cells false false [.int .i64 (xl : Nat),.int .i64 (xr : Nat),.int .i64 (xt : Nat),.int .u8 (up : Nat),.int .u8 (un : Nat)] :: T1,?_⟩
     rw [stS,if_neg (fun h => by rw [c3] at h; cases h.2.2)]
     clear more hsc
     generalize blz B = LB at *
     generalize blz X = LX at *
     generalize blz Y = LY at *
     rw [xRK]
     simp (maxSteps := 30000000) (disch := first | assumption | omega | (simp only [WL,AV.isCell,xAb,xAa,xAq] <;> omega) | rfl | decide) only [xN6,WB,hp,hlt,↓reduceIte,hat,AV.cells,AV.isCell,Nat.reduceAdd,ata,atb,lfs_at0',xAm,hc,xE0,xAJ,xPe,same]
   ·have c2' : Y.getD xr false = false := by simpa using c2
    rw [c1] at ata
    rw [c2'] at atb
    refine ⟨Blk.cells false false [.int .i64 (xl : Nat),.int .i64 (xr : Nat),.int .i64 (xt : Nat),.int .u8 (up : Nat),.int .u8 (un : Nat)] :: T1,?_⟩
    rw [stS,if_neg (fun h => c2 (by simpa using h.2.1))]
    clear more hsc
    generalize blz B = LB at *
    generalize blz X = LX at *
    generalize blz Y = LY at *
    rw [xRK]
    simp (maxSteps := 30000000) (disch := first | assumption | omega | (simp only [WL,AV.isCell,xAb,xAa,xAq] <;> omega) | rfl | decide) only [xN6,WB,hp,hlt,↓reduceIte,hat,AV.cells,AV.isCell,Nat.reduceAdd,ata,atb,xAm,xPe,same]
  ·have c1' : X.getD xl false = false := by simpa using c1
   rw [c1'] at ata
   refine ⟨Blk.cells false false [.int .i64 (xl : Nat),.int .i64 (xr : Nat),.int .i64 (xt : Nat),.int .u8 (up : Nat),.int .u8 (un : Nat)] :: T1,?_⟩
   rw [stS,if_neg (fun h => c1 (by simpa using h.1))]
   clear more hsc
   generalize blz B = LB at *
   generalize blz X = LX at *
   generalize blz Y = LY at *
   rw [xRK]
   simp (maxSteps := 30000000) (disch := first | assumption | omega | (simp only [WL,AV.isCell,xAb,xAa,xAq] <;> omega) | rfl | decide) only [xN6,WB,hp,hlt,↓reduceIte,hat,AV.cells,AV.isCell,Nat.reduceAdd,ata,xAm,xPe,same]
def stT (B : List Bool) (u : Rl) : List Bool := if B.getD u.l.toNat false = true ∧ B.getD u.r.toNat false = true then B.set u.t.toNat true else B
def stU (S B : List Bool) (u : Rl) : List Bool := if B.getD u.t.toNat false = true ∧ S.getD u.l.toNat false = true ∧ S.getD u.r.toNat false = true then (B.set u.l.toNat true).set u.r.toNat true else B
theorem xSQ (B : List Bool) (u : Rl) : Le B (stT B u) := by
 unfold stT; split
 ·exact xY3 _ _
 ·exact Le.refl _
theorem xSR (S B : List Bool) (u : Rl) : Le B (stU S B u) := by
 unfold stU; split
 ·exact (xY3 _ _).trans (xY3 _ _)
 ·exact Le.refl _
def xJ5 (s : Nat) (n : Aut) : List Bool := xKk stT n.rl s (xLY (n.st.map Int.toNat) (List.replicate s false))
theorem xNu (s : Nat) (n : Aut) : (xJ5 s n).length = s := by
 unfold xJ5
 rw [← (xOA xSQ n.rl s _).len,xLx,List.length_replicate]
theorem xSS {n : Aut} {s w : Nat} (hr : RlS s n.rl) (hq : ∀ q ∈ n.st,0 ≤ q ∧ q < (s : Int)) (h1 : xJK w n.rl = w) (h2 : ∀ j,(xIT 0 n.st).testBit j = true → w.testBit j = true)
  (h3 : ∀ U,Clo n.rl U → (∀ j,(xIT 0 n.st).testBit j = true → U j = true) → ∀ j,w.testBit j = true → U j = true) (j : Nat) : (xJ5 s n).getD j false = w.testBit j := by
 obtain ⟨i1,i2⟩ := xQv hq
 have hst : ∀ j,(xLY (n.st.map Int.toNat) (List.replicate s false)).getD j false = (xIT 0 n.st).testBit j := fun j => by
  rw [xQu _ j (by rw [List.length_replicate]; exact i1),xOB,Bool.or_false,i2,xKj _ _ _ (fun q h => (hq q h).1),Nat.zero_testBit,Bool.false_or]
 have hc := xSE _ _ h1
 rw [Bool.eq_iff_iff]
 constructor
 ·refine xQt (U := fun j => w.testBit j) (fun u hu B hB j hj => ?_) s (fun j hj => h2 j ((hst j).symm.trans hj)) j
  unfold stT at hj
  split at hj
  ·rename_i e
   rw [xH6,Bool.or_eq_true,decide_eq_true_eq] at hj
   rcases hj with ⟨rfl,_⟩ | hj
   ·exact hc u hu (hB _ e.1) (hB _ e.2)
   ·exact hB j hj
  ·exact hB j hj
 ·refine h3 (fun j => (xJ5 s n).getD j false) (fun u hu a b => ?_) (fun j hj => (xOA xSQ n.rl s _).sub j ((hst j).trans hj)) j
  have hf := xQr xSQ (xQs xSQ n.rl s (xLY (n.st.map Int.toNat) (List.replicate s false)) (by rw [xLx,List.length_replicate]; omega)) u hu
  have hl := xNu s n
  have hut := (hr.h u hu).2.2.1
  unfold xJ5 at a b ⊢
  unfold xJ5 at hl
  rw [stT,if_pos ⟨a,b⟩] at hf
  show (xKk stT n.rl s (xLY (n.st.map Int.toNat) (List.replicate s false))).getD u.t.toNat false = true
  rw [← hf,xH6,hl]
  have : u.t.toNat < s := by omega
  simp [this]
def putS (S : List Bool) : List Nat → List Bool → List Bool
 | [],B => B
 | q :: l,B => putS S l (B.set q (S.getD q false))
theorem xNv (S : List Bool) : ∀ (l : List Nat) (B : List Bool),(putS S l B).length = B.length
 | [],B => rfl
 | q :: l,B => by rw [putS,xNv,List.length_set]
theorem xVa {S : List Bool} : ∀ (l : List Nat) {B : List Bool} (j : Nat),(∀ q ∈ l,q < B.length) → (∀ j,B.getD j false = true → S.getD j false = true) → (putS S l B).getD j false = ((decide (j ∈ l) && S.getD j false) || B.getD j false)
 | [],B,j,h,_ => by simp [putS]
 | q :: l,B,j,h,hB => by
  have h0 := h q List.mem_cons_self
  have xGC : ∀ j,(B.set q (S.getD q false)).getD j false = if j = q then S.getD q false else B.getD j false := fun j => by
   rw [List.getD_eq_getElem?_getD,List.getElem?_set,List.getD_eq_getElem?_getD]
   by_cases e : q = j
   ·subst e; simp [h0]
   ·rw [if_neg e,if_neg (fun x => e x.symm)]; rw [List.getD_eq_getElem?_getD]
  rw [putS,xVa l j (fun x hx => by rw [List.length_set]; exact h x (List.mem_cons_of_mem _ hx)) (fun j hj => by
   rw [xGC] at hj
   split at hj
   ·rename_i e; rw [e]; exact hj
   ·exact hB j hj),xGC]
  by_cases e : j = q
  ·subst e
   have := hB j
   cases h1 : B.getD j false <;> cases h2 : S.getD j false <;> simp_all
  ·simp [e]
def xV7 (s : Nat) (n : Aut) (S : List Bool) : List Bool := xKk (stU S) n.rl s (putS S (n.fi.map Int.toNat) (List.replicate s false))
theorem xQw (s : Nat) (n : Aut) (S : List Bool) : (xV7 s n S).length = s := by
 unfold xV7
 rw [← (xOA (xSR S) n.rl s _).len,xNv,List.length_replicate]
theorem xY7 {n : Aut} {s S w : Nat} (hr : RlS s n.rl) (hq : ∀ q ∈ n.st,0 ≤ q ∧ q < (s : Int)) (hf : ∀ q ∈ n.fi,0 ≤ q ∧ q < (s : Int)) (h : Use n S w) (j : Nat) : (xV7 s n (xJ5 s n)).getD j false = w.testBit j := by
 have hS : ∀ j,(xJ5 s n).getD j false = S.testBit j := xSS hr hq h.sfix h.semp h.smin
 obtain ⟨i1,i2⟩ := xQv hf
 have hst : ∀ j,(putS (xJ5 s n) (n.fi.map Int.toNat) (List.replicate s false)).getD j false = ((xIT 0 n.fi).testBit j && S.testBit j) := fun j => by
  rw [xVa _ j (by rw [List.length_replicate]; exact i1) (fun j hj => by rw [xOB] at hj; cases hj),xOB,Bool.or_false,i2,xKj _ _ _ (fun q h => (hf q h).1),Nat.zero_testBit,Bool.false_or,hS]
 rw [Bool.eq_iff_iff]
 constructor
 ·refine xQt (U := fun j => w.testBit j) (fun u hu B hB j hj => ?_) s (fun j hj => ?_) j
  ·unfold stU at hj
   split at hj
   ·rename_i e
    obtain ⟨e1,e2,e3⟩ := e
    rw [hS] at e2 e3
    have hc := h.wfix u hu (hB _ e1) e2 e3
    rw [xH6,xH6,Bool.or_eq_true,Bool.or_eq_true,decide_eq_true_eq,decide_eq_true_eq] at hj
    rcases hj with ⟨rfl,_⟩ | ⟨rfl,_⟩ | hj
    ·exact hc.2
    ·exact hc.1
    ·exact hB j hj
   ·exact hB j hj
  ·rw [hst,Bool.and_eq_true] at hj
   exact h.wfin j hj.1 hj.2
 ·refine h.wmin (fun j => (xV7 s n (xJ5 s n)).getD j false) (fun u hu a b c => ?_) (fun j h1 h2 => (xOA (xSR _) n.rl s _).sub j ((hst j).trans (by rw [h1,h2]; rfl))) j
  have hfx := xQr (xSR (xJ5 s n)) (xQs (xSR (xJ5 s n)) n.rl s (putS (xJ5 s n) (n.fi.map Int.toNat) (List.replicate s false)) (by rw [xNv,List.length_replicate]; omega)) u hu
  have hl := xQw s n (xJ5 s n)
  have hu1 := hr.h u hu
  have b := (hS _).trans b
  have c := (hS _).trans c
  unfold xV7 at a hl ⊢
  rw [stU,if_pos ⟨a,b,c⟩] at hfx
  show (xKk (stU (xJ5 s n)) n.rl s (putS (xJ5 s n) (n.fi.map Int.toNat) (List.replicate s false))).getD u.l.toNat false = true ∧ (xKk (stU (xJ5 s n)) n.rl s (putS (xJ5 s n) (n.fi.map Int.toNat) (List.replicate s false))).getD u.r.toNat false = true
  have k1 : u.l.toNat < s := by omega
  have k2 : u.r.toNat < s := by omega
  constructor
  ·rw [← hfx,xH6,xH6,hl]
   simp [k1]
  ·rw [← hfx,xH6,List.length_set,hl]
   simp [k2]
theorem xPL {X Y : List Bool} {l r x s : Nat} (hX : ∀ j,X.getD j false = l.testBit j) (hY : ∀ j,Y.getD j false = r.testBit j) : ∀ (rl : List Rl) (B : List Bool) (a : Nat),RlS s rl → B.length = s → (∀ j,B.getD j false = a.testBit j) → ∀ j,(xHt (stS X Y x) rl B).getD j false = (toM l r x a rl).testBit j
 | [],B,a,_,_,h,j => h j
 | u :: rl,B,a,hr,hl,h,j => by
  have hu := hr.h u List.mem_cons_self
  rw [xHt,toM]
  refine xPL hX hY rl _ _ ⟨fun v hv => hr.h v (List.mem_cons_of_mem _ hv)⟩ (by rw [xY5]; exact hl) (fun j => ?_) j
  unfold stS hit
  rw [hX,hY]
  by_cases c : l.testBit u.l.toNat = true ∧ r.testBit u.r.toNat = true ∧ yAM u.p u.n x = true
  ·rw [if_pos c,if_pos (by rw [c.1,c.2.1,c.2.2]; rfl),xH6,Nat.testBit_or,Nat.testBit_two_pow,h]
   have : u.t.toNat < B.length := by omega
   by_cases e : j = u.t.toNat
   ·subst e; simp [this]
   ·have e' : ¬ u.t.toNat = j := fun q => e q.symm
    simp [e,e']
  ·rw [if_neg c,if_neg (fun q => c (by simpa [and_assoc] using q)),h]
section
variable {n : Aut} {s : Nat} {z : Bool} {t : List Lf}
set_option maxHeartbeats 2000000 in
theorem xVb (hn : n.states = (s : Nat)) (hs : s ≤ 64) (h1 : n.st.length < 1000000) (hl : n.rl.length < 1000000) (hq : ∀ q ∈ n.st,0 ≤ q ∧ q < (s : Int)) (hr : RlS s n.rl) (htl : t.length < 1000000) (hx : ∀ e ∈ t,e.x < 256) {c : Int} {m k : Nat} {T : BT} (h : Sub t c m T k) :
  ∃ B,L.pcall 52 [n.av,tw z t,.int .i64 c] = some (.sl false s (blz B)) ∧ B.length = s ∧ ∀ j,B.getD j false = (ev (xIT 0 n.st) n.rl T).testBit j := by
 have h85 := xY4 n hn hs
 induction h with
 | none m =>
  obtain ⟨i1,i2⟩ := xQv hq
  have hp := yFy (n := n) (p := 0) (b := 1) (by decide) h1 hs hq n.st.length 0 (List.replicate s false) [.cells false false n.cells,.cells false false (blz (List.replicate s false))] (by omega) (by simp) rfl rfl
  simp only [Int.natCast_zero,List.drop_zero] at hp
  refine ⟨xLY (n.st.map Int.toNat) (List.replicate s false),?_,by rw [xLx,List.length_replicate],fun j => ?_⟩
  ·have hlen : (xLY (n.st.map Int.toNat) (List.replicate s false)).length = s := by rw [xLx,List.length_replicate]
   have ht := xNt (xLY (n.st.map Int.toNat) (List.replicate s false))
   have hbl := xAq (xLY (n.st.map Int.toNat) (List.replicate s false))
   have hfz := fun d H => xGB d H (xLY (n.st.map Int.toNat) (List.replicate s false))
   rw [hlen] at ht hbl
   generalize blz (xLY (n.st.map Int.toNat) (List.replicate s false)) = LB at *
   rw [yGW,a52,xAd]
   simp (maxSteps := 30000000) (disch := first | assumption | omega | (simp only [WL,AV.isCell,xAb,xAa,xAq] <;> omega) | rfl | decide) only [Int.reduceNeg,WB,Nat.reduceAdd,Nat.reduceSub,AV.cells,AV.isCell,↓reduceIte,WP,h85,xCY,xD9,xCJ,Int.reduceLT,xXo,hp,xDT,ht,hfz]
  ·rw [xQu _ j (by rw [List.length_replicate]; exact i1),xOB,Bool.or_false,i2,ev,xKj _ _ _ (fun q h => (hq q h).1),Nat.zero_testBit,Bool.false_or]
 | @some m k n' l r hm hL hR ihl ihr =>
  obtain ⟨X,hX,lX,bX⟩ := ihl
  obtain ⟨Y,hY,lY,bY⟩ := ihr
  have hxm := hx _ (xNr hm)
  obtain ⟨T,hp⟩ := xY6 (n := n) (zt := z) (t := t) (m := m) (p := 0) (b := 1) (X := X) (Y := Y) (by decide) hs hl hr htl hm hxm lX lY n.rl.length 0 (List.replicate s false) [.cells false false n.cells,.cells false false (blz (List.replicate s false))] (by omega) (by simp) rfl rfl
  simp only [Int.natCast_zero,List.drop_zero] at hp
  refine ⟨xHt (stS X Y (t.getD m f0).x) n.rl (List.replicate s false),?_,by rw [xOC,List.length_replicate],fun j => ?_⟩
  ·have hlen : (xHt (stS X Y (t.getD m f0).x) n.rl (List.replicate s false)).length = s := by rw [xOC,List.length_replicate]
   have ht := xNt (xHt (stS X Y (t.getD m f0).x) n.rl (List.replicate s false))
   have hbl := xAq (xHt (stS X Y (t.getD m f0).x) n.rl (List.replicate s false))
   have hfz := fun d H => xGB d H (xHt (stS X Y (t.getD m f0).x) n.rl (List.replicate s false))
   rw [hlen] at ht hbl
   generalize blz (xHt (stS X Y (t.getD m f0).x) n.rl (List.replicate s false)) = LB at *
   have hmI : (m : Int) < (t.length : Nat) := by omega
   have a1 := xDx hm
   have a2 := xDK hm
   generalize (t.getD m f0).l = xl at *
   generalize (t.getD m f0).r = xr at *
   rw [yGW,a52,xAd]
   simp (maxSteps := 30000000) (disch := first | assumption | omega | (simp only [WL,AV.isCell,xAb,xAa,xAq] <;> omega) | rfl | decide) only [WB,Nat.reduceAdd,Nat.reduceSub,AV.cells,AV.isCell,↓reduceIte,WP,h85,xCY,xD9,xCJ,a1,hX,xE0,xAJ,a2,xAm,hY,xPe,hp,xDT,ht,hfz]
  ·exact xPL bX bY n.rl _ 0 hr (by simp) (fun j => by rw [xOB,Nat.zero_testBit]) j
end
theorem yFz (z : Bool) (t : List Lf) (hl : t.length < 1099511627776) : L.pcall 53 [tw z t] = some (.int .i64 (if t.length = 0 then -1 else 0)) := by
 have e0 : (((t.length : Nat) : Int) = 0) = (t.length = 0) := propext ⟨fun h => by omega,fun h => by omega⟩
 rw [yH3,a53,xAd]
 by_cases c : t.length = 0
 ·simp (disch := omega) only [Int.reduceNeg,WB,Nat.reduceSub,c,↓reduceIte]
 ·simp (disch := omega) only [Int.reduceNeg,WB,Nat.reduceSub,e0,c,↓reduceIte]
def wL : Nat → List Bool → Nat → Nat
 | _,[],w => w
 | i,b :: r,w => wL (i + 1) r (if b = true then w + 2 ^ i else w)
theorem yFA {w i : Nat} (h : w < 2 ^ i) : w + 2 ^ i = w ||| 2 ^ i := by
 have := Nat.two_pow_add_eq_or_of_lt h 1
 rw [Nat.mul_one] at this
 rw [Nat.add_comm,this,Nat.or_comm]
theorem yFB : ∀ (r : List Bool) (i w : Nat),w < 2 ^ i → wL i r w < 2 ^ (i + r.length)
 | [],i,w,h => h
 | b :: r,i,w,h => by
  have e : i + (b :: r).length = i + 1 + r.length := by rw [List.length_cons]; omega
  rw [wL,e]
  refine yFB r (i + 1) _ ?_
  rw [Nat.pow_succ]
  split <;> omega
theorem yCf : ∀ (r : List Bool) (i w j : Nat),w < 2 ^ i → (wL i r w).testBit j = (w.testBit j || (decide (i ≤ j) && r.getD (j - i) false))
 | [],i,w,j,h => by simp [wL]
 | b :: r,i,w,j,h => by
  have h' : (if b = true then w + 2 ^ i else w) < 2 ^ (i + 1) := by rw [Nat.pow_succ]; split <;> omega
  rw [wL,yCf r (i + 1) _ j h']
  have e : (if b = true then w + 2 ^ i else w).testBit j = (w.testBit j || (b && decide (i = j))) := by
   cases b with
   | true => rw [if_pos rfl,yFA h,Nat.testBit_or,Nat.testBit_two_pow,Bool.true_and]
   | false => simp
  rw [e]
  rcases Nat.lt_trichotomy i j with q | q | q
  ·obtain ⟨k,rfl⟩ : ∃ k,j = i + 1 + k := ⟨j - i - 1,by omega⟩
   have a1 : i + 1 + k - i = k + 1 := by omega
   have a2 : i + 1 + k - (i + 1) = k := by omega
   have a3 : ¬ i = i + 1 + k := by omega
   rw [a1,a2]
   simp [a3,show i ≤ i + 1 + k by omega]
  ·subst q
   have a3 : ¬ i + 1 ≤ i := by omega
   simp [a3]
  ·have a1 : ¬ i = j := by omega
   have a2 : ¬ i + 1 ≤ j := by omega
   have a3 : ¬ i ≤ j := by omega
   simp [a1,a2,a3]
theorem xMY {B : List Bool} {H : Heap} (hs : B.length ≤ 64) : ∀ d i w,i + d = B.length → w < 2 ^ i →
  L.loop xRD yAd ⟨xRE (.sl false B.length (blz B)) (.int .u64 (w : Nat)) (.int .i64 (i : Nat)),H⟩ = some (.exit 0,⟨xRE (.sl false B.length (blz B)) (.int .u64 (wL i (B.drop i) w : Nat)) (.int .i64 (B.length : Nat)),H⟩)
 | 0,i,w,h,hw => by
  obtain rfl : i = B.length := by omega
  rw [List.drop_length,wL,xXn]
  simp (disch := omega) only [xRC,WB,↓reduceIte,xRF]
 | d + 1,i,w,h,hw => by
  have hlt : (i : Int) < (B.length : Nat) := by omega
  have hi : i < B.length := by omega
  have hat := xFu hi
  have hd : B.drop i = B.getD i false :: B.drop (i + 1) := by
   rw [List.drop_eq_getElem_cons hi]
   simp [List.getD,List.getElem?_eq_getElem hi]
  have hbl := xAq B
  have hsh := xVS (show i < 64 by omega)
  have hp := xOm (show i < 64 by omega)
  have hw2 : w < 2 ^ (i + 1) := by rw [Nat.pow_succ]; omega
  have hw3 : w + 2 ^ i < 2 ^ (i + 1) := by rw [Nat.pow_succ]; omega
  have h64 : (2 : Nat) ^ (i + 1) ≤ 2 ^ 64 := Nat.pow_le_pow_right (by decide) (by omega)
  have hwr : IntKind.u64.wrap (((w : Nat) : Int) + ((2 ^ i : Nat) : Int)) = ((w + 2 ^ i : Nat) : Int) := by rw [IntKind.wrap_u64]; omega
  rw [hd,wL]
  cases c : B.getD i false with
  | true =>
   rw [c] at hat
   have ih := xMY (H := H) hs d (i + 1) (w + 2 ^ i) (by omega) hw3
   rw [if_pos rfl]
   rw [xXn]
   simp (disch := omega) only [xRC,WB,hlt,↓reduceIte,hat,hsh,W2,xRF,ih]
  | false =>
   rw [c] at hat
   have ih := xMY (H := H) hs d (i + 1) w (by omega) hw2
   rw [if_neg (by simp)]
   rw [xXn]
   simp (disch := omega) only [xRC,WB,hlt,↓reduceIte,hat,xRF,ih]
theorem yFC {B : List Bool} (hs : B.length ≤ 64) : ∃ z r,L.pcall 51 [.sl false B.length (blz B)] = some (sw z r) ∧ CanS r (fun j => B.getD j false) := by
 have h := xMY (H := []) hs B.length 0 0 (by omega) (by simp)
 simp only [Int.natCast_zero,List.drop_zero] at h
 have hlt := yFB B 0 0 (by simp)
 have hbit := fun j => yCf B 0 0 j (by simp)
 simp only [Nat.zero_testBit,Bool.false_or,Nat.zero_le,decide_true,Bool.true_and,Nat.sub_zero] at hbit
 generalize wL 0 B 0 = w at *
 have hw64 : w < 18446744073709551616 := Nat.lt_of_lt_of_le hlt (Nat.le_trans (Nat.pow_le_pow_right (by decide) (by omega : 0 + B.length ≤ 64)) (by decide))
 have e0 : ((((w : Nat) : Int) = 0)) = (w = 0) := propext ⟨fun h => by omega,fun h => by omega⟩
 by_cases c : w = 0
 ·refine ⟨true,[],?_,?_⟩
  ·show _ = some (AV.sl true 0 [])
   rw [yGV,a51,xAd]
   simp (disch := omega) only [WB,Nat.reduceSub,xRF,h,c,↓reduceIte]
  ·exact canS_nil.congr fun j => by rw [← hbit,c,Nat.zero_testBit]
 ·refine ⟨false,[w],?_,?_⟩
  ·show _ = some (AV.sl false 1 [.int .u64 (w : Nat)])
   rw [yGV,a51,xAd]
   simp (disch := omega) only [WB,Nat.reduceSub,xRF,h,↓reduceIte,e0,c,AV.cells,AV.isCell]
  ·refine ⟨fun x hx => ?_,by simp,fun _ => by simpa using c,fun j => ?_⟩
   ·simp only [List.mem_singleton] at hx
    rw [hx]; exact hw64
   ·unfold mem
    by_cases cj : j < 64
    ·rw [show j / 64 = 0 by omega,show j % 64 = j by omega]
     simp [show j < 4096 by omega,hbit]
    ·show _ = B.getD j false
     have e1 : ([w] : List Nat).getD (j / 64) 0 = 0 := xJT (by simp; omega)
     rw [e1,Nat.zero_testBit,Bool.and_false,List.getD_eq_getElem?_getD,List.getElem?_eq_none (by omega)]; rfl
end Go.Abs.Tree
