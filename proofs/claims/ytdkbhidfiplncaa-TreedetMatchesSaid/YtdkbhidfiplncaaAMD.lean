/- built: the rows of a state. -/
import Derived.Test.YtdkbhidfiplncaaAbsBun
import Derived.Test.YtdkbhidfiplncaaAMC
import Derived.Test.YtdkbhidfiplncaaAMA
import Derived.Test.YtdkbhidfiplncaaAMB
namespace Go.Abs.Det
open Go Go.Abs
set_option linter.unusedSimpArgs false
set_option linter.unusedVariables false
section
variable {v : Int} {n B rb l : Nat} {f g : AV} {nxt : Nat → Nat → Nat → Int} {fin : Nat → Bool} {J : xAc → Prop} {s8 s9 s16 s17 s23 s24 : AV}
set_option maxHeartbeats 1000000 in
theorem yFb (hR : Rd v n B f g nxt fin J) {r : Nat} (hl : l < n) (hr : r < n) (hrb : B ≤ rb) {G : xAc} {cs : List AV} (hJ : J G) (hG : G[rb]? = some (.cells false false cs)) (hcl : cs.length = n) (hc : cs[r]? = some (.sl true 0 [])) :
  ∃ G' : xAc,∃ id',L.loop xJS xV8 ⟨xHc (.int .i64 v) (.int .i64 (n : Nat)) f g s8 s9 (.int .i64 (l : Nat)) (.own false rb 0 n 1) (.int .i64 (r : Nat)) s16 s17 s23 s24 (.int .i64 (two v : Nat)) (.int .i64 0),G⟩ =
   some (.exit 4,⟨xHc (.int .i64 v) (.int .i64 (n : Nat)) f g s8 s9 (.int .i64 (l : Nat)) (.own false rb 0 n 1) (.int .i64 (r : Nat)) s16 s17 s23 s24 (.int .i64 (two v : Nat)) (.int .i64 (two v : Nat)),G'⟩) ∧
   G'[rb]? = some (.cells false false (cs.set r (.own false id' 0 (two v) 1))) ∧ G'[id']? = some (.cells false false (ints (rvL nxt l r (two v)))) ∧ id' ≠ rb ∧ G.length ≤ id' ∧
   (∀ b,b < G.length → b ≠ rb → G'[b]? = G[b]?) ∧ G.length ≤ G'.length := by
 have h8 := (xAV hR.v3).1
 have h80 := (xAV hR.v3).2
 have n64 := hR.n64
 have hrl := (List.getElem?_eq_some_iff.1 hG).1
 have hnx := hR.nx G l r 0 hJ hl hr h80
 have hrv : rvL nxt l r 1 = [nxt l r 0] := rfl
 generalize nxt l r 0 = y at *
 obtain ⟨G1,hG1⟩ : ∃ G1 : xAc,G1 = (G ++ [Blk.cells false false [AV.int .i64 y]]).set rb (.cells false false (cs.set r (.own false G.length 0 1 1))) := ⟨_,rfl⟩
 have old : ∀ b,b < G.length → b ≠ rb → G1[b]? = G[b]? := fun b h1 h2 => by
  rw [hG1,List.getElem?_set_ne (Ne.symm h2),List.getElem?_append_left h1]
 have hlen1 : G1.length = G.length + 1 := by rw [hG1]; simp
 obtain ⟨G',id',f1,f2,f3,f4,f5,f6,f7,f8⟩ := yIG (s8 := s8) (s9 := s9) (s16 := s16) (s17 := s17) (s23 := s23) (s24 := s24) hR hl hr hrb (two v - 1) 1 G1 (cs.set r (.own false G.length 0 1 1)) G.length (by omega) (Nat.le_refl _) (hR.keep G G1 hJ fun b hb => old b (by omega) (by omega))
  (by rw [hG1]; exact List.getElem?_set_self (by simp; omega)) (by simpa using hcl) (List.getElem?_set_self (by omega))
  (by rw [hG1,hrv,List.getElem?_set_ne (by omega)]; simp [ints]) (by omega) (by omega)
 refine ⟨G',id',?_,by rw [f2,List.set_set],f3,f4,by omega,fun b h1 h2 => by rw [f7 b (by omega) h2 (by omega),old b h1 h2],by omega⟩
 have gc : List.take 1 (List.drop r cs) = [.sl true 0 []] := by
  obtain ⟨h1,h2⟩ := List.getElem?_eq_some_iff.1 hc
  rw [List.drop_eq_getElem_cons h1,h2]; rfl
 have hsame : xCW G G (.ptr rb r) 1 = true := by
  have h1 : rd G (.ptr rb r) 1 = some [.sl true 0 []] := by
   rw [xF9,hG,xBY (by omega),gc]
  simp [xCW,h1,xYe]
 have hwr : ∀ X : AV,List.take r cs ++ X :: List.drop (r + 1) cs = cs.set r X := fun X => by rw [List.set_eq_take_append_cons_drop,if_pos (by omega)]
 have zr : ∀ T : xAc,(G ++ T)[rb]? = some (.cells false false cs) := fun T => xAw hG
 have hlt : (0 : Int) < (two v : Nat) := by omega
 rw [hG1] at f1
 simp only [Int.natCast_zero,Int.natCast_one] at f1 hnx
 rw [xV9]
 simp (maxSteps := 30000000) (disch := first | assumption | omega | (simp only [WL,AV.isCell,xAa] <;> omega) | rfl | decide) only [xNH,WB,hlt,↓reduceIte,WH,WP,hG,gc,Nat.reduceSub,hnx,hsame,AV.cells,AV.isCell,Nat.reduceBEq,zr,hwr,xSb,f1]
structure RowsAt (v : Int) (nxt : Nat → Nat → Nat → Int) (n B rb l r : Nat) (G : xAc) (cs : List AV) : Prop where
 len : cs.length = n
 blk : G[rb]? = some (.cells false false cs)
 don : ∀ i,i < r → ∃ id,cs[i]? = some (.own false id 0 (two v) 1) ∧ G[id]? = some (.cells false false (ints (rvL nxt l i (two v)))) ∧ rb < id
 nil : ∀ i,r ≤ i → i < n → cs[i]? = some (.sl true 0 [])
set_option maxHeartbeats 1000000 in
theorem yBQ (hR : Rd v n B f g nxt fin J) (hl : l < n) (hrb : B ≤ rb) : ∀ e r G cs,r + e = n → J G → RowsAt v nxt n B rb l r G cs →
  ∃ G' cs',L.loop xNI yAj ⟨xNJ (.int .i64 v) (.int .i64 (n : Nat)) f g s8 s9 (.int .i64 (l : Nat)) (.own false rb 0 n 1) s16 s17 (.int .i64 (n : Nat)) (.int .i64 (r : Nat)),G⟩ =
   some (.exit 2,⟨xNJ (.int .i64 v) (.int .i64 (n : Nat)) f g s8 s9 (.int .i64 (l : Nat)) (.own false rb 0 n 1) s16 s17 (.int .i64 (n : Nat)) (.int .i64 (n : Nat)),G'⟩) ∧
   RowsAt v nxt n B rb l n G' cs' ∧ (∀ b,b < G.length → b ≠ rb → G'[b]? = G[b]?) ∧ G.length ≤ G'.length := by
 have n64 := hR.n64
 have hsh := xBU hR.v0 hR.v3
 have hv : ¬ v < 0 := by have := hR.v0; omega
 intro e
 induction e with
 | zero =>
  intro r G cs h hJ hA
  obtain rfl : r = n := by omega
  refine ⟨G,cs,?_,hA,fun _ _ _ => rfl,Nat.le_refl _⟩
  rw [yCm]
  simp (maxSteps := 30000000) (disch := first | assumption | omega | (simp only [WL,AV.isCell,xAa] <;> omega) | rfl | decide) only [xSc,WB,↓reduceIte,xSd]
 | succ e ih =>
  intro r G cs h hJ hA
  have hlt : (r : Int) < (n : Nat) := by omega
  have hrl := (List.getElem?_eq_some_iff.1 hA.blk).1
  obtain ⟨G1,id,r1,r2,r3,r4,r5,r6,r7⟩ := yFb (s8 := s8) (s9 := s9) (s16 := s16) (s17 := s17) (s23 := .int .i64 (n : Nat)) (s24 := .int .i64 (r : Nat)) hR hl (show r < n by omega) hrb hJ hA.blk hA.len (hA.nil r (Nat.le_refl _) (by omega))
  have hil := (List.getElem?_eq_some_iff.1 r3).1
  obtain ⟨G',cs',f1,f2,f3,f4⟩ := ih (r + 1) G1 (cs.set r (.own false id 0 (two v) 1)) (by omega) (hR.keep G G1 hJ fun b hb => r6 b (by omega) (by omega))
   ⟨by simpa using hA.len,r2,fun i hi => by
    by_cases c : i = r
    ·subst c
     exact ⟨id,List.getElem?_set_self (by rw [hA.len]; omega),r3,by omega⟩
    ·obtain ⟨id2,d1,d2,d3⟩ := hA.don i (by omega)
     exact ⟨id2,by rw [List.getElem?_set_ne (Ne.symm c)]; exact d1,by rw [r6 id2 (List.getElem?_eq_some_iff.1 d2).1 (by omega)]; exact d2,d3⟩,
    fun i hi hn => by rw [List.getElem?_set_ne (by omega)]; exact hA.nil i (by omega) hn⟩
  refine ⟨G',cs',?_,f2,fun b h1 h2 => by rw [f3 b (by omega) h2,r6 b h1 h2],by omega⟩
  rw [yCm]
  simp (maxSteps := 30000000) (disch := first | assumption | omega | (simp only [WL,AV.isCell,xAa] <;> omega) | rfl | decide) only [xSc,WB,hlt,↓reduceIte,hsh,xSb,r1,xSd,f1]
end
def xCL (v : Int) (nxt : Nat → Nat → Nat → Int) (n l : Nat) : List (List Int) := (List.range n).map fun r => rvL nxt l r (two v)
def xBB (v : Int) (nxt : Nat → Nat → Nat → Int) (n l : Nat) : List (List (List Int)) := (List.range l).map (xCL v nxt n)
def xD6 (fin : Nat → Bool) (l : Nat) : List Bool := (List.range l).map fin
theorem xBh (fin : Nat → Bool) (l : Nat) : (xD6 fin l).length = l := by simp [xD6]
theorem xQx (fin : Nat → Bool) (l : Nat) : xD6 fin (l + 1) = xD6 fin l ++ [fin l] := by
 unfold xD6; rw [List.range_succ,List.map_append]; rfl
theorem xAE (v : Int) (nxt : Nat → Nat → Nat → Int) (n l : Nat) : (xBB v nxt n l).length = l := by simp [xBB]
theorem xLJ (v : Int) (nxt : Nat → Nat → Nat → Int) (n l : Nat) : xBB v nxt n (l + 1) = xBB v nxt n l ++ [xCL v nxt n l] := by
 unfold xBB; rw [List.range_succ,List.map_append]; rfl
theorem xB7 (v : Int) (nxt : Nat → Nat → Nat → Int) (n l : Nat) : (xCL v nxt n l).length = n := by simp [xCL]
theorem yFc {v : Int} {nxt : Nat → Nat → Nat → Int} {n B rb l : Nat} {G : xAc} {cs : List AV} (hn : 0 < n) (h : RowsAt v nxt n B rb l n G cs) : Fz 2 G rb (.own false rb 0 n 1) (rowsD (xCL v nxt n l)) := by
 have hg : Grow 1 G rb (.own false rb 0 n 1) ((xCL v nxt n l).map rowT) := .inr ⟨rb,cs,by rw [List.length_map,xB7],h.blk,Nat.le_refl _,by rw [List.length_map,xB7]; exact h.len,fun i c t hc ht => by
  have hi : i < n := by have := (List.getElem?_eq_some_iff.1 hc).1; rw [h.len] at this; exact this
  obtain ⟨id,d1,d2,d3⟩ := h.don i hi
  rw [d1] at hc
  obtain rfl := Option.some.inj hc
  have ht' : t = rowT (rvL nxt l i (two v)) := by
   unfold xCL at ht
   simp [hi] at ht
   exact ht.symm
  subst ht'
  have hrow := Fz.row (G := G) (B := rb + 1) (id := id) (es := 1) (n := two v) (cs := ints (rvL nxt l i (two v))) d2 (xC1 _) (by rw [xAk,xCN,Nat.mul_one]) d3
  have e1 : rowT (rvL nxt l i (two v)) = .sl false (two v) (ints (rvL nxt l i (two v))) := by unfold rowT; rw [xCN]
  rw [e1]
  exact ⟨hrow.low (by omega),fun d hd hm => by have := (hrow d hd).2 _ hm; omega⟩⟩
 have := hg.fz
 rw [List.length_map,xB7] at this
 have hz : (n == 0) = false := by rw [beq_eq_false_iff_ne]; omega
 rw [hz] at this
 have e2 : rowsD (xCL v nxt n l) = .sl false n ((xCL v nxt n l).map rowT) := by unfold rowsD; rw [xB7]
 rw [e2]
 rcases this with q | q
 ·exact q
 ·have := congrArg List.length q
  rw [List.length_map,xB7] at this
  simp at this; omega
theorem yFd {v : Int} {nxt : Nat → Nat → Nat → Int} {n B rb l : Nat} {G : xAc} {cs : List AV} (hn : n ≤ 64) (hv : two v ≤ 8) (h : RowsAt v nxt n B rb l n G cs) : TV1 G (.own false rb 0 n 1) := by
 refine .inr ⟨rb,cs,by rw [h.len],h.blk,by rw [h.len]; omega,fun c hc => ?_⟩
 obtain ⟨i,hi,rfl⟩ := List.getElem_of_mem hc
 obtain ⟨id,d1,d2,_⟩ := h.don i (by rw [← h.len]; exact hi)
 rw [List.getElem?_eq_getElem hi] at d1
 rw [Option.some.inj d1]
 exact .inr ⟨id,_,by rw [xCN],d2,by rw [xCN]; omega⟩
inductive UB (v : Int) (nxt : Nat → Nat → Nat → Int) (fin : Nat → Bool) (n q l : Nat) (G : xAc) : Prop
 | zero (h : l = 0) (h2 : G[q]? = some (.cells false false [.int .i64 v,.int .i64 0,.sl true 0 [],.sl true 0 []]))
 | more (id f : Nat) (cs : List AV) (h : l ≠ 0) (h2 : G[q]? = some (.cells false false [.int .i64 v,.int .i64 0,.own false id 0 l 1,.own false f 0 l 1]))
   (hi : G[id]? = some (.cells false false cs)) (hf : G[f]? = some (.cells false false (bools (xD6 fin l)))) (i3 : q < id) (f3 : q < f) (hne : id ≠ f) (hl : cs.length = l)
   (he : ∀ (i : Nat) (c t : AV),cs[i]? = some c → ((xBB v nxt n l).map rowsD)[i]? = some t → Fz 2 G (q + 1) c t ∧ ∀ d,2 ≤ d → id ∉ bor d G c ∧ f ∉ bor d G c)
   (ht : ∀ c ∈ cs,TV1 G c)
theorem xUv (a : AV) : ∀ n,xCD [a] n = List.replicate n a
 | 0 => rfl
 | n + 1 => by
  show [a] ++ xCD [a] n = _
  rw [xUv a n]; rfl
section
variable {v : Int} {n B q : Nat} {f g : AV} {nxt : Nat → Nat → Nat → Int} {fin : Nat → Bool} {J : xAc → Prop} {s8 : AV}
set_option maxRecDepth 10000 in
set_option maxHeartbeats 4000000 in
theorem xVx (hR : Rd v n B f g nxt fin J) (hq : B ≤ q) : ∀ e l G,l + e = n → J G → UB v nxt fin n q l G →
  ∃ G',L.loop xNL yAk ⟨xNM (.int .i64 v) (.int .i64 (n : Nat)) f g s8 (.ptr q 0) (.int .i64 (n : Nat)) (.int .i64 (l : Nat)),G⟩ =
   some (.exit 0,⟨xNM (.int .i64 v) (.int .i64 (n : Nat)) f g s8 (.ptr q 0) (.int .i64 (n : Nat)) (.int .i64 (n : Nat)),G'⟩) ∧ UB v nxt fin n q n G' ∧ (∀ b,b < q → G'[b]? = G[b]?) ∧ G.length ≤ G'.length := by
 have n64 := hR.n64
 have n0 := hR.n0
 intro e
 induction e with
 | zero =>
  intro l G h hJ hU
  obtain rfl : l = n := by omega
  refine ⟨G,?_,hU,fun _ _ => rfl,Nat.le_refl _⟩
  rw [xWa]
  simp (maxSteps := 30000000) (disch := first | assumption | omega | (simp only [WL,AV.isCell,xAa] <;> omega) | rfl | decide) only [xNK,WB,↓reduceIte,xSe]
 | succ e ih =>
  intro l G h hJ hU
  have hlt : (l : Int) < (n : Nat) := by omega
  have hql : q < G.length := by
   cases hU with
   | zero _ h2 => exact (List.getElem?_eq_some_iff.1 h2).1
   | more id f cs _ h2 => exact (List.getElem?_eq_some_iff.1 h2).1
  have hJ1 : J (G ++ [.cells false false (List.replicate n (.sl true 0 []))]) := hR.keep G _ hJ fun b hb => List.getElem?_append_left (by omega)
  have hA : RowsAt v nxt n B G.length l 0 (G ++ [.cells false false (List.replicate n (.sl true 0 []))]) (List.replicate n (.sl true 0 [])) :=
   ⟨by simp,xJo _ _,fun i hi => by omega,fun i _ hi => by rw [List.getElem?_replicate,if_pos hi]⟩
  obtain ⟨G2,cs2,r1,r2,r3,r4⟩ := yBQ (s8 := s8) (s9 := .ptr q 0) (s16 := .int .i64 (n : Nat)) (s17 := .int .i64 (l : Nat)) hR (show l < n by omega) (show B ≤ G.length by omega) n 0 _ _ (by omega) hJ1 hA
  have fz' := yFc n0 r2
  have tv' := yFd n64 (xAV hR.v3).1 r2
  have hrbl := (List.getElem?_eq_some_iff.1 r2.blk).1
  have old : ∀ b,b < G.length → G2[b]? = G[b]? := fun b hb => by
   rw [r3 b (by simp; omega) (by omega),List.getElem?_append_left hb]
  have hJ2 : J G2 := hR.keep G G2 hJ fun b hb => old b (by omega)
  simp only [Int.natCast_zero] at r1
  have hrep : xCD [AV.sl true 0 []] n = List.replicate n (AV.sl true 0 []) := xUv _ _
  have hG2 : G.length < G2.length := hrbl
  generalize hrb : G.length = rb at *
  have nbor : ∀ d,2 ≤ d → ∀ b ∈ bor d G2 (.own false rb 0 n 1),rb ≤ b ∧ b < G2.length := fun d hd b hb => (fz' d hd).2 b hb
  cases hU with
  | zero hl0 h2 =>
   subst hl0
   have hz2 : G2[q]? = some (.cells false false [.int .i64 v,.int .i64 0,.sl true 0 [],.sl true 0 []]) := (old q hql).trans h2
   obtain ⟨X,hX⟩ : ∃ X,X = Blk.cells false false [.int .i64 v,.int .i64 0,.own false (G2.length + 1) 0 1 1,.sl true 0 []] := ⟨_,rfl⟩
   obtain ⟨Hm,hHm⟩ : ∃ Hm : xAc,Hm = (G2 ++ [Blk.cells false false [.own false rb 0 n 1],Blk.cells false false [.own false rb 0 n 1]]).set q X := ⟨_,rfl⟩
   have hml : Hm.length = G2.length + 2 := by rw [hHm]; simp
   have sameM : ∀ b,b ≠ q → b < G2.length → Hm[b]? = G2[b]? := fun b hb hb2 => by
    rw [hHm,List.getElem?_set_ne (Ne.symm hb),List.getElem?_append_left hb2]
   have hmq : Hm[q]? = some X := by rw [hHm]; exact List.getElem?_set_self (by simp; omega)
   have hJm : J Hm := hR.keep G2 Hm hJ2 fun b hb => sameM b (by omega) (by omega)
   obtain ⟨T,hfn⟩ := hR.fn Hm 0 hJm (by omega)
   obtain ⟨Ht,hHt⟩ : ∃ Ht : xAc,Ht = Hm ++ T := ⟨_,rfl⟩
   have htl : Ht.length = Hm.length + T.length := by rw [hHt]; simp
   have sameT : ∀ b,b < Hm.length → Ht[b]? = Hm[b]? := fun b hb => by rw [hHt,List.getElem?_append_left hb]
   rw [← hHt] at hfn
   obtain ⟨Y,hY⟩ : ∃ Y,Y = Blk.cells false false [.int .i64 v,.int .i64 0,.own false (G2.length + 1) 0 1 1,.own false Ht.length 0 1 1] := ⟨_,rfl⟩
   obtain ⟨H',hH⟩ : ∃ H' : xAc,H' = (Ht ++ [Blk.cells false false [.bool (fin 0)]]).set q Y := ⟨_,rfl⟩
   have same : ∀ b,b ≠ q → b < G2.length → H'[b]? = G2[b]? := fun b hb hb2 => by
    rw [hH,List.getElem?_set_ne (Ne.symm hb),List.getElem?_append_left (by omega),sameT b (by omega),sameM b hb hb2]
   have hlen : H'.length = Ht.length + 1 := by rw [hH]; simp
   have htq : Ht[q]? = some X := (sameT q (by omega)).trans hmq
   have hs2 : H'[q]? = some Y := by rw [hH]; exact List.getElem?_set_self (by simp; omega)
   have hs3 : H'[G2.length + 1]? = some (.cells false false [.own false rb 0 n 1]) := by
    rw [hH,List.getElem?_set_ne (by omega),List.getElem?_append_left (by omega),sameT _ (by omega),hHm,List.getElem?_set_ne (by omega)]
    exact xLW _ _ 1
   have hs4 : H'[Ht.length]? = some (.cells false false [.bool (fin 0)]) := by
    rw [hH,List.getElem?_set_ne (by omega),List.getElem?_append_right (by omega)]
    simp
   have fzH : Fz 2 H' rb (.own false rb 0 n 1) (rowsD (xCL v nxt n 0)) := fz'.frame (by omega) fun d hd b hb => by
    have := nbor d hd b hb
    exact same b (by omega) this.2
   have hU' : UB v nxt fin n q 1 H' := .more (G2.length + 1) Ht.length [.own false rb 0 n 1] (by omega) (by rw [hs2,hY]) hs3 (by rw [hs4]; rfl) (by omega) (by omega) (by omega) rfl (fun i c t hc ht => by
    have e0 : i = 0 := by
     cases i with
     | zero => rfl
     | succ i => simp at hc
    subst e0
    simp at hc
    subst hc
    have : t = rowsD (xCL v nxt n 0) := by simpa [xBB] using ht.symm
    subst this
    refine ⟨fzH.low (by omega),fun d hd => ?_⟩
    have hb2 := (xCr d _ (fun b hb => by have := nbor d hd b hb; exact same b (by omega) this.2)).2
    rw [hb2]
    exact ⟨fun hm' => by have := nbor d hd _ hm'; omega,fun hm' => by have := nbor d hd _ hm'; omega⟩)
    (fun c hc => by
     rw [List.mem_singleton] at hc
     subst hc
     exact tv'.frame (d := 0) fun b hb => by have := nbor 2 (Nat.le_refl _) b hb; exact same b (by omega) this.2)
   obtain ⟨G',e1,e2,e3,e4⟩ := ih 1 H' (by omega) (hR.keep G2 H' hJ2 fun b hb => same b (by omega) (by omega)) hU'
   refine ⟨G',?_,e2,fun b hb => by rw [e3 b hb,same b (by omega) (by omega),old b (by omega)],by omega⟩
   have hz2' := fun T => xAw (X := T) hz2
   have htq' := fun T => xAw (X := T) htq
   have hsame : xCW Hm Ht (.ptr q 3) 1 = true := by
    have h1 : rd Hm (.ptr q 3) 1 = some [.sl true 0 []] := by
     rw [xF9,hmq,hX,xBY (by simp)]; rfl
    have h2 : rd Ht (.ptr q 3) 1 = some [.sl true 0 []] := by
     rw [xF9,htq,hX,xBY (by simp)]; rfl
    simp [xCW,h1,h2,xYe]
   have hHm' := hHm.symm
   rw [hX] at hHm' hmq htq htq'
   rw [hH,hY] at e1
   have hlt0 : (0 : Int) < (n : Nat) := by omega
   simp only [Int.natCast_zero,Int.natCast_one] at hlt0 e1 r1 hfn ⊢
   rw [xWa]
   simp (maxSteps := 30000000) (disch := first | assumption | omega | (simp only [WL,AV.isCell,xAa] <;> omega) | rfl | decide) only [xNK,WB,hlt0,↓reduceIte,hrep,hrb,xSd,r1,hz2,AV.cells,AV.isCell,Nat.reduceBEq,hz2',Nat.reduceAdd,hHm',WH,WP,hmq,Nat.reduceSub,hfn,hsame,htq',xSe,e1]
  | more id fb cs hl0 h2 hi hf i3 f3 hne hl he ht0 =>
   have hidl := (List.getElem?_eq_some_iff.1 hi).1
   have hfl := (List.getElem?_eq_some_iff.1 hf).1
   rw [hrb] at hidl hfl
   have hz2 : G2[q]? = some (.cells false false [.int .i64 v,.int .i64 0,.own false id 0 l 1,.own false fb 0 l 1]) := (old q hql).trans h2
   have hzi : G2[id]? = some (.cells false false cs) := (old id hidl).trans hi
   have hzf : G2[fb]? = some (.cells false false (bools (xD6 fin l))) := (old fb hfl).trans hf
   obtain ⟨X,hX⟩ : ∃ X,X = Blk.cells false false [.int .i64 v,.int .i64 0,.own false (G2.length + 1) 0 (l + 1) 1,.own false fb 0 l 1] := ⟨_,rfl⟩
   obtain ⟨Hm,hHm⟩ : ∃ Hm : xAc,Hm = (((G2 ++ [Blk.cells false false [.own false rb 0 n 1]]).set id .dead) ++ [Blk.cells false false (cs ++ [.own false rb 0 n 1])]).set q X := ⟨_,rfl⟩
   have hml : Hm.length = G2.length + 2 := by rw [hHm]; simp
   have sameM : ∀ b,b ≠ q → b ≠ id → b < G2.length → Hm[b]? = G2[b]? := fun b hb hbi hb2 => by
    rw [hHm,List.getElem?_set_ne (Ne.symm hb),List.getElem?_append_left (by simp; omega),List.getElem?_set_ne (Ne.symm hbi),List.getElem?_append_left hb2]
   have hmq : Hm[q]? = some X := by rw [hHm]; exact List.getElem?_set_self (by simp; omega)
   have hmf : Hm[fb]? = some (.cells false false (bools (xD6 fin l))) := (sameM fb (by omega) (by omega) (by omega)).trans hzf
   have hJm : J Hm := hR.keep G2 Hm hJ2 fun b hb => sameM b (by omega) (by omega) (by omega)
   obtain ⟨T,hfn⟩ := hR.fn Hm l hJm (by omega)
   obtain ⟨Ht,hHt⟩ : ∃ Ht : xAc,Ht = Hm ++ T := ⟨_,rfl⟩
   have htl : Ht.length = Hm.length + T.length := by rw [hHt]; simp
   have sameT : ∀ b,b < Hm.length → Ht[b]? = Hm[b]? := fun b hb => by rw [hHt,List.getElem?_append_left hb]
   rw [← hHt] at hfn
   obtain ⟨Y,hY⟩ : ∃ Y,Y = Blk.cells false false [.int .i64 v,.int .i64 0,.own false (G2.length + 1) 0 (l + 1) 1,.own false Ht.length 0 (l + 1) 1] := ⟨_,rfl⟩
   obtain ⟨H',hH⟩ : ∃ H' : xAc,H' = (Ht.set fb .dead ++ [Blk.cells false false (bools (xD6 fin l ++ [fin l]))]).set q Y := ⟨_,rfl⟩
   have same : ∀ b,b ≠ q → b ≠ id → b ≠ fb → b < G2.length → H'[b]? = G2[b]? := fun b hb hbi hbf hb2 => by
    rw [hH,List.getElem?_set_ne (Ne.symm hb),List.getElem?_append_left (by simp; omega),List.getElem?_set_ne (Ne.symm hbf),sameT b (by omega),sameM b hb hbi hb2]
   have hlen : H'.length = Ht.length + 1 := by rw [hH]; simp
   have htq : Ht[q]? = some X := (sameT q (by omega)).trans hmq
   have htf' : Ht[fb]? = some (.cells false false (bools (xD6 fin l))) := (sameT fb (by omega)).trans hmf
   have hs2 : H'[q]? = some Y := by rw [hH]; exact List.getElem?_set_self (by simp; omega)
   have hs3 : H'[G2.length + 1]? = some (.cells false false (cs ++ [.own false rb 0 n 1])) := by
    rw [hH,List.getElem?_set_ne (by omega),List.getElem?_append_left (by simp; omega),List.getElem?_set_ne (by omega),sameT _ (by omega),hHm,List.getElem?_set_ne (by omega),List.getElem?_append_right (by simp)]
    simp
   have hs4 : H'[Ht.length]? = some (.cells false false (bools (xD6 fin (l + 1)))) := by
    rw [hH,List.getElem?_set_ne (by omega),List.getElem?_append_right (by simp),xQx]
    simp
   have fzH : Fz 2 H' rb (.own false rb 0 n 1) (rowsD (xCL v nxt n l)) := fz'.frame (by omega) fun d hd b hb => by
    have := nbor d hd b hb
    exact same b (by omega) (by omega) (by omega) this.2
   have hU' : UB v nxt fin n q (l + 1) H' := .more (G2.length + 1) Ht.length (cs ++ [.own false rb 0 n 1]) (by omega) (by rw [hs2,hY]) hs3 hs4 (by omega) (by omega) (by omega) (by simp [hl]) (fun i c t hc ht => by
    rw [xLJ,List.map_append] at ht
    by_cases hil : i < cs.length
    ·rw [List.getElem?_append_left hil] at hc
     rw [List.getElem?_append_left (by rw [List.length_map,xAE]; omega)] at ht
     obtain ⟨k1,k2⟩ := he i c t hc ht
     have hG2 : ∀ d,2 ≤ d → ∀ b ∈ bor d G c,H'[b]? = G[b]? := fun d hd b hb => by
      have hb' := (k1 d hd).2 b hb
      have hk := k2 d hd
      rw [hrb] at hb'
      rw [same b (by omega) (fun e => hk.1 (e ▸ hb)) (fun e => hk.2 (e ▸ hb)) (by omega)]
      exact old b hb'.2
     refine ⟨k1.frame (by omega) hG2,fun d hd => ?_⟩
     rw [(xCr d c (hG2 d hd)).2]
     exact ⟨fun hm' => by have := (k1 d hd).2 _ hm'; omega,fun hm' => by have := (k1 d hd).2 _ hm'; omega⟩
    ·rw [List.getElem?_append_right (by omega)] at hc
     rw [List.getElem?_append_right (by rw [List.length_map,xAE]; omega),List.length_map,xAE,← hl] at ht
     have e0 : i - cs.length = 0 := by
      cases e : i - cs.length with
      | zero => rfl
      | succ j => rw [e] at hc; simp at hc
     rw [e0] at hc ht
     simp at hc ht
     subst hc; subst ht
     refine ⟨by rw [hl]; exact fzH.low (by omega),fun d hd => ?_⟩
     have hb2 := (xCr d _ (fun b hb => by have := nbor d hd b hb; exact same b (by omega) (by omega) (by omega) this.2)).2
     rw [hb2]
     exact ⟨fun hm' => by have := nbor d hd _ hm'; omega,fun hm' => by have := nbor d hd _ hm'; omega⟩)
    (fun c hc => by
     rcases List.mem_append.1 hc with hc | hc
     ·obtain ⟨i,hil,rfl⟩ := List.getElem_of_mem hc
      have hts : i < ((xBB v nxt n l).map rowsD).length := by rw [List.length_map,xAE]; omega
      obtain ⟨k1,k2⟩ := he i cs[i] _ (List.getElem?_eq_getElem hil) (List.getElem?_eq_getElem hts)
      refine (ht0 _ hc).frame (d := 0) fun b hb => ?_
      have hb' := (k1 2 (Nat.le_refl _)).2 b hb
      have hk := k2 2 (Nat.le_refl _)
      rw [hrb] at hb'
      rw [same b (by omega) (fun e => hk.1 (e ▸ hb)) (fun e => hk.2 (e ▸ hb)) (by omega)]
      exact old b hb'.2
     ·rw [List.mem_singleton] at hc
      subst hc
      exact tv'.frame (d := 0) fun b hb => by have := nbor 2 (Nat.le_refl _) b hb; exact same b (by omega) (by omega) (by omega) this.2)
   obtain ⟨G',e1,e2,e3,e4⟩ := ih (l + 1) H' (by omega) (hR.keep G2 H' hJ2 fun b hb => same b (by omega) (by omega) (by omega) (by omega)) hU'
   refine ⟨G',?_,e2,fun b hb => by rw [e3 b hb,same b (by omega) (by omega) (by omega) (by omega),old b (by omega)],by omega⟩
   have hz2' := fun T => xAw (X := T) hz2
   have hzi' := fun T => xAw (X := T) hzi
   have q1 : ∀ T T' : xAc,((G2 ++ T).set id .dead ++ T')[q]? = some (.cells false false [.int .i64 v,.int .i64 0,.own false id 0 l 1,.own false fb 0 l 1]) := fun T T' => xAw (by rw [List.getElem?_set_ne (by omega)]; exact xAw hz2)
   have hsame : xCW Hm Ht (.ptr q 3) 1 = true := by
    have h1 : rd Hm (.ptr q 3) 1 = some [.own false fb 0 l 1] := by
     rw [xF9,hmq,hX,xBY (by simp)]; rfl
    have h2 : rd Ht (.ptr q 3) 1 = some [.own false fb 0 l 1] := by
     rw [xF9,htq,hX,xBY (by simp)]; rfl
    simp [xCW,h1,h2,xYe]
   have hmq2 : ∀ T : xAc,(Ht.set fb .dead ++ T)[q]? = some X := fun T => xAw (by rw [List.getElem?_set_ne (by omega)]; exact htq)
   have hHm' := hHm.symm
   rw [hX] at hHm' hmq hmq2 htq
   have htk : List.take l cs = cs := List.take_of_length_le (by omega)
   have htf : List.take l (bools (xD6 fin l)) = bools (xD6 fin l) := List.take_of_length_le (by rw [xAa,xBh]; exact Nat.le_refl _)
   have hbl : (bools (xD6 fin l)).length = l := by rw [xAa,xBh]
   have hsn : ∀ b : Bool,bools (xD6 fin l) ++ [AV.bool b] = bools (xD6 fin l ++ [b]) := fun b => by rw [← xYB]; rfl
   rw [hH,hY] at e1
   rw [xWa]
   simp (maxSteps := 30000000) (disch := first | assumption | omega | (simp only [WL,AV.isCell,xAa] <;> omega) | rfl | decide) only [xNK,WB,hlt,↓reduceIte,hrep,hrb,xSd,r1,hz2,AV.cells,AV.isCell,hzi',Nat.reduceBEq,htk,q1,Nat.reduceAdd,hHm',WH,WP,hmq,Nat.reduceSub,hfn,hsame,htf',htf,hsn,hmq2,xSe,e1]
end
theorem yIB {v : Int} {nxt : Nat → Nat → Nat → Int} {fin : Nat → Bool} {n q l : Nat} {G : xAc} (h : UB v nxt fin n q l G) (hl : l ≠ 0) (hl64 : l ≤ 64) :
  ∃ i f : Nat,G[q]? = some (Blk.cells false false [.int .i64 v,.int .i64 0,.own false i 0 l 1,.own false f 0 l 1]) ∧ Fz 3 G (q + 1) (.own false i 0 l 1) (.sl false l ((xBB v nxt n l).map rowsD)) ∧ Fz 1 G (q + 1) (.own false f 0 l 1) (.sl false l (bools (xD6 fin l))) ∧ TV2 G (.own false i 0 l 1) ∧ TB G (.own false f 0 l 1) := by
 cases h with
 | zero h0 => exact absurd h0 hl
 | more id f cs h h2 hi hf i3 f3 hne hcl he ht =>
  refine ⟨_,_,h2,?_,?_,.inr ⟨id,cs,by rw [hcl],hi,by omega,ht⟩,.inr ⟨f,_,by rw [xBh],hf,by rw [xBh]; omega⟩⟩
  ·have hg : Grow 2 G (q + 1) (.own false id 0 l 1) ((xBB v nxt n l).map rowsD) := .inr ⟨id,cs,by rw [List.length_map,xAE],hi,i3,by rw [List.length_map,xAE]; exact hcl,fun i c t hc ht => ⟨(he i c t hc ht).1,fun d hd => ((he i c t hc ht).2 d hd).1⟩⟩
   have := hg.fz
   rw [List.length_map,xAE] at this
   have hz : (l == 0) = false := by rw [beq_eq_false_iff_ne]; exact hl
   rw [hz] at this
   rcases this with p | p
   ·exact p
   ·have := congrArg List.length p; rw [List.length_map,xAE] at this; exact absurd this hl
  ·have := Fz.row (B := q + 1) (es := 1) (n := l) hf (xLo _) (by rw [xAa,xBh,Nat.mul_one]) f3
   exact this
set_option maxHeartbeats 1000000 in
theorem xRs {v : Int} {n : Nat} {f g : AV} {nxt : Nat → Nat → Nat → Int} {fin : Nat → Bool} {J : xAc → Prop} {G : xAc} (hR : Rd v n G.length f g nxt fin J) (hJ : J G) :
  ∃ (G' : xAc) (i k : Nat),L.icall (.func 61 []) [.int .i64 v,.int .i64 (n : Nat),f,g] G = some (.agg [.int .i64 v,.int .i64 0,.own false i 0 n 1,.own false k 0 n 1],G') ∧
   Fz 3 G' G.length (.own false i 0 n 1) (.sl false n ((xBB v nxt n n).map rowsD)) ∧ Fz 1 G' G.length (.own false k 0 n 1) (.sl false n (bools (xD6 fin n))) ∧ (∀ b,b < G.length → G'[b]? = G[b]?) ∧ G.length ≤ G'.length ∧ TV2 G' (.own false i 0 n 1) ∧ TB G' (.own false k 0 n 1) := by
 have n64 := hR.n64
 have n0 := hR.n0
 obtain ⟨G1,e1,e2,e3,e4⟩ := xVx (s8 := .ptr G.length 0) hR (show G.length ≤ G.length + 1 by omega) n 0 (G ++ [.cells false false [.int .i64 0,.int .i64 0,.sl true 0 [],.sl true 0 []],.cells false false [.int .i64 v,.int .i64 0,.sl true 0 [],.sl true 0 []]]) (by omega)
  (hR.keep G _ hJ fun b hb => List.getElem?_append_left hb) (.zero rfl (xLW _ _ 1))
 obtain ⟨i,k,g2,f1,f2,t1,t2⟩ := yIB e2 (by omega) n64
 have z8 : G1[G.length]? = some (.cells false false [.int .i64 0,.int .i64 0,.sl true 0 [],.sl true 0 []]) := (e3 _ (by omega)).trans (xJo _ _)
 simp only [List.length_append,List.length_cons,List.length_nil] at e4
 obtain ⟨G',hG'⟩ : ∃ G' : xAc,G' = G1.set G.length (.cells false false [.int .i64 v,.int .i64 0,.own false i 0 n 1,.own false k 0 n 1]) := ⟨_,rfl⟩
 have hl' : G'.length = G1.length := by rw [hG']; simp
 have same : ∀ b,b ≠ G.length → G'[b]? = G1[b]? := fun b hb => by rw [hG',List.getElem?_set_ne (Ne.symm hb)]
 refine ⟨G',i,k,?_,(f1.frame (by omega) fun d hd b hb => same b (by have := (f1 d hd).2 b hb; omega)).low (by omega),(f2.frame (by omega) fun d hd b hb => same b (by have := (f2 d hd).2 b hb; omega)).low (by omega),
  fun b hb => by rw [same b (by omega),e3 b (by omega),List.getElem?_append_left hb],by omega,
  TV2.frame (d := 0) t1 (fun b hb => same b (by have := (f1 3 (Nat.le_refl _)).2 b hb; omega)),TB.frame (d := 0) t2 (fun b hb => same b (by have := (f2 1 (Nat.le_refl _)).2 b hb; omega))⟩
 have z8b : G'[G.length]? = some (.cells false false [.int .i64 v,.int .i64 0,.own false i 0 n 1,.own false k 0 n 1]) := by rw [hG']; exact List.getElem?_set_self (by omega)
 have hG'' := hG'.symm
 have hq1 : (G ++ [Blk.cells false false [AV.int .i64 0,AV.int .i64 0,AV.sl true 0 [],AV.sl true 0 []],Blk.cells false false [AV.int .i64 0,AV.int .i64 0,AV.sl true 0 [],AV.sl true 0 []]]).set (G.length + 1) (Blk.cells false false [AV.int .i64 v,AV.int .i64 0,AV.sl true 0 [],AV.sl true 0 []]) = G ++ [Blk.cells false false [AV.int .i64 0,AV.int .i64 0,AV.sl true 0 [],AV.sl true 0 []],Blk.cells false false [AV.int .i64 v,AV.int .i64 0,AV.sl true 0 [],AV.sl true 0 []]] := by
  rw [List.set_append_right _ _ (by omega)]; simp
 simp only [Int.natCast_zero] at e1
 rw [yJB,a61,xGB]
 simp (maxSteps := 30000000) (disch := first | assumption | omega | (simp only [WL,AV.isCell,xAa] <;> omega) | rfl | decide) only [WB,Nat.reduceAdd,Nat.reduceSub,AV.cells,AV.isCell,↓reduceIte,Nat.reduceLeDiff,hq1,xSe,e1,g2,z8,hG'',z8b]
section
variable {D : Da}
abbrev nob : List Int → Bool := fun _ => false
theorem xZr (o : List Int) (l r x : Nat) : o <+: xBW D o l r x := by
 unfold xBW
 split
 ·exact List.prefix_rfl
 ·exact List.prefix_append _ _
theorem yFe (o : List Int) (l r x : Nat) : nx D (o.getD l 0) (o.getD r 0) x ∈ xBW D o l r x := by
 unfold xBW
 split
 ·assumption
 ·simp
theorem xCM {o o' : List Int} (h : o <+: o') {i : Nat} (hi : i < o.length) : o'.getD i 0 = o.getD i 0 := by
 obtain ⟨t,rfl⟩ := h
 simp only [List.getD_eq_getElem?_getD]
 rw [List.getElem?_append_left hi]
theorem xDQ {o o' : List Int} (h : o <+: o') : o.length ≤ o'.length := h.length_le
theorem xRt {o o' : List Int} (h : o <+: o') {a : Int} (ha : a ∈ o) : a ∈ o' := h.subset ha
theorem xRu (l r x e : Nat) (o : List Int) : goX nob (xBW D) l r x (e + 1) o = goX nob (xBW D) l r (x + 1) e (xBW D o l r x) := rfl
theorem xGw (l r : Nat) : ∀ e x o,o <+: goX nob (xBW D) l r x e o
 | 0,_,o => List.prefix_rfl
 | e + 1,x,o => by rw [xRu]; exact (xZr o l r x).trans (xGw l r e (x + 1) _)
theorem yDA (l r : Nat) : ∀ e x o,l < o.length → r < o.length → ∀ y,x ≤ y → y < x + e → nx D (o.getD l 0) (o.getD r 0) y ∈ goX nob (xBW D) l r x e o
 | 0,x,o,_,_,y,h1,h2 => by omega
 | e + 1,x,o,hl,hr,y,h1,h2 => by
  rw [xRu]
  have hp := xZr (D := D) o l r x
  rcases Nat.eq_or_lt_of_le h1 with q | q
  ·subst q
   exact xRt (xGw l r e (x + 1) _) (yFe o l r x)
  ·have := yDA l r e (x + 1) (xBW D o l r x) (by have := xDQ hp; omega) (by have := xDQ hp; omega) y q (by omega)
   rwa [xCM hp hl,xCM hp hr] at this
def Done (D : Da) (o : List Int) (i j : Nat) : Prop := ∀ x,x < two D.vars → nx D (o.getD i 0) (o.getD j 0) x ∈ o
theorem Done.pre {o o' : List Int} {i j : Nat} (h : Done D o i j) (hp : o <+: o') (hi : i < o.length) (hj : j < o.length) : Done D o' i j := fun x hx => by
 rw [xCM hp hi,xCM hp hj]; exact xRt hp (h x hx)
theorem xZs {l r : Nat} {o : List Int} (hl : l < o.length) (hr : r < o.length) : Done D (goX nob (xBW D) l r 0 (two D.vars) o) l r := fun x hx => by
 have hp := xGw (D := D) l r (two D.vars) 0 o
 rw [xCM hp hl,xCM hp hr]
 exact yDA l r _ 0 o hl hr x (Nat.zero_le _) (by omega)
theorem yFf (n j k : Nat) (o : List Int) : goP nob (xBW D) n j k o = goX nob (xBW D) k j 0 n (goX nob (xBW D) j k 0 n o) := rfl
theorem xZt (n j k : Nat) (o : List Int) : o <+: goP nob (xBW D) n j k o := by
 rw [yFf]; exact (xGw j k n 0 o).trans (xGw k j n 0 _)
theorem yFg {j k : Nat} {o : List Int} (hj : j < o.length) (hk : k < o.length) : Done D (goP nob (xBW D) (two D.vars) j k o) j k ∧ Done D (goP nob (xBW D) (two D.vars) j k o) k j := by
 rw [yFf]
 have hp := xDQ (xGw (D := D) j k (two D.vars) 0 o)
 exact ⟨(xZs hj hk).pre (xGw k j _ 0 _) (by omega) (by omega),xZs (by omega) (by omega)⟩
theorem xRv (n k j e : Nat) (o : List Int) : goJ nob (xBW D) n k j (e + 1) o = goJ nob (xBW D) n k (j + 1) e (goP nob (xBW D) n j k o) := rfl
theorem xQy (n k : Nat) : ∀ e j o,o <+: goJ nob (xBW D) n k j e o
 | 0,_,o => List.prefix_rfl
 | e + 1,j,o => by rw [xRv]; exact (xZt n j k o).trans (xQy n k e (j + 1) _)
theorem xRw {k : Nat} : ∀ e j o,j + e = k + 1 → k < o.length → ∀ i,j ≤ i → i ≤ k → Done D (goJ nob (xBW D) (two D.vars) k j e o) i k ∧ Done D (goJ nob (xBW D) (two D.vars) k j e o) k i
 | 0,j,o,h,hk,i,h1,h2 => by omega
 | e + 1,j,o,h,hk,i,h1,h2 => by
  rw [xRv]
  have hp := xDQ (xZt (D := D) (two D.vars) j k o)
  rcases Nat.eq_or_lt_of_le h1 with q | q
  ·subst q
   obtain ⟨d1,d2⟩ := yFg (D := D) (show j < o.length by omega) hk
   exact ⟨d1.pre (xQy _ k e (j + 1) _) (by omega) (by omega),d2.pre (xQy _ k e (j + 1) _) (by omega) (by omega)⟩
  ·exact xRw e (j + 1) _ (by omega) (by omega) i q h2
theorem yDB (n : Nat) : ∀ e k o,o <+: goK List.length nob (xBW D) n k e o
 | 0,_,o => List.prefix_rfl
 | e + 1,k,o => by
  unfold goK
  split
  ·exact (xQy n k (k + 1) 0 o).trans (yDB n e (k + 1) _)
  ·exact List.prefix_rfl
theorem xZu {N : Nat} : ∀ e k o,k + e = N → (goK List.length nob (xBW D) (two D.vars) k e o).length ≤ N → (∀ i j,i < k → j < k → i < o.length → j < o.length → Done D o i j) →
  ∀ i j,i < (goK List.length nob (xBW D) (two D.vars) k e o).length → j < (goK List.length nob (xBW D) (two D.vars) k e o).length → Done D (goK List.length nob (xBW D) (two D.vars) k e o) i j
 | 0,k,o,h,hN,hd,i,j,hi,hj => by
  have hN' : o.length ≤ N := hN
  have hi' : i < o.length := hi
  have hj' : j < o.length := hj
  exact hd i j (by omega) (by omega) hi' hj'
 | e + 1,k,o,h,hN,hd,i,j,hi,hj => by
  by_cases c : k < o.length
  ·have he : goK List.length nob (xBW D) (two D.vars) k (e + 1) o = goK List.length nob (xBW D) (two D.vars) (k + 1) e (goJ nob (xBW D) (two D.vars) k 0 (k + 1) o) := by
    show (if k < o.length then _ else _) = _
    rw [if_pos c]; rfl
   rw [he] at hN hi hj ⊢
   have hp := xQy (D := D) (two D.vars) k (k + 1) 0 o
   refine xZu e (k + 1) _ (by omega) hN (fun i j hi hj hi' hj' => ?_) i j hi hj
   by_cases ci : i = k
   ·subst ci
    exact (xRw (i + 1) 0 o (by omega) c j (Nat.zero_le _) (by omega)).2
   ·by_cases cj : j = k
    ·subst cj
     exact (xRw (j + 1) 0 o (by omega) c i (Nat.zero_le _) (by omega)).1
    ·exact (hd i j (by omega) (by omega) (by omega) (by omega)).pre hp (by omega) (by omega)
  ·have he : goK List.length nob (xBW D) (two D.vars) k (e + 1) o = o := by
    show (if k < o.length then _ else _) = _
    rw [if_neg c]
   rw [he] at hi hj ⊢
   exact hd i j (by omega) (by omega) hi hj
theorem xGP : [D.empty] <+: xCj D := yDB _ _ 0 _
theorem xFu (hN : (xCj D).length ≤ D.next.length) {i j x : Nat} (hi : i < (xCj D).length) (hj : j < (xCj D).length) (hx : x < two D.vars) : nx D ((xCj D).getD i 0) ((xCj D).getD j 0) x ∈ xCj D :=
 xZu (N := D.next.length) D.next.length 0 [D.empty] (by omega) hN (fun i j h => by omega) i j hi hj x hx
end
def yHr (D : Da) (l r x : Nat) : Int := (xZQ (xCj D) (nx D ((xCj D).getD l 0) ((xCj D).getD r 0) x) : Nat)
def yIC (D : Da) (l : Nat) : Bool := D.fin.getD ((xCj D).getD l 0).toNat false
def xDn (D : Da) : Da := ⟨D.vars,0,xBB D.vars (yHr D) (xCj D).length (xCj D).length,xD6 (yIC D) (xCj D).length⟩
set_option maxHeartbeats 2000000 in
theorem xC2 {D : Da} (hV : Va D) : OrdOk D (xCj D) ∧ L.pcall 56 [D.av] = some (xDn D).av := by
 have n64 := hV.n64
 have n0 := hV.n0
 have hI0 : RenI D [D.empty] 4 [.cells false false D.cells,.cells false false [.int .i64 0,.int .i64 0,.sl true 0 [],.sl true 0 []],.mp [(.int .i64 D.empty,.int .i64 0)],.cells false false [.mp 2],.cells false false [.int .i64 D.empty],.cells false false [.own false 4 0 1 1]] :=
  ⟨⟨by simp,fun s hs => by rw [List.mem_singleton] at hs; subst hs; exact ⟨hV.e0,hV.en⟩⟩,rfl,rfl,rfl,rfl,rfl,rfl,.inl rfl⟩
 obtain ⟨G1,lb,e1,e2⟩ := xQE (xZA hV) hI0 rfl rfl
 have e2' : RenI D (xCj D) lb G1 := e2
 have hok := e2'.ok
 refine ⟨hok,?_⟩
 have hle := hok.le
 have hpos : 0 < (xCj D).length := by have := xDQ (xGP (D := D)); simp at this; omega
 have h6 := (List.getElem?_eq_some_iff.1 e2'.b5).1
 have hR : Rd D.vars (xCj D).length G1.length (.func 103 [.ptr 3 0,.ptr 0 0,.ptr 5 0]) (.func 104 [.ptr 0 0,.ptr 5 0]) (yHr D) (yIC D) (fun G => RenI D (xCj D) lb G) :=
  ⟨hV.v0,hV.v3,hpos,by omega,fun G G' hJ hb => by
   have l5 := (List.getElem?_eq_some_iff.1 e2'.bl).1
   exact ⟨hJ.ok,(hb 0 (by omega)).trans hJ.b0,(hb 1 (by omega)).trans hJ.b1,(hb 2 (by omega)).trans hJ.b2,(hb 3 (by omega)).trans hJ.b3,(hb 5 (by omega)).trans hJ.b5,(hb lb l5).trans hJ.bl,hJ.lo⟩,
   fun G l r x hJ hl hr hx => xZB hV hJ hl hr hx (xFu hle hl hr hx),
   fun G l hJ hl => ⟨[],by rw [List.append_nil]; exact xZC hV hJ hl⟩⟩
 obtain ⟨G2,i,k,f1,f2,f3,f4,f5,_,_⟩ := xRs hR e2'
 have b0 := e2'.b0
 have b1 := (f4 1 (by omega)).trans e2'.b1
 have b5 := e2'.b5
 have hGl : 1 < G2.length := by omega
 have same : ∀ (Z : Blk) b,b ≠ 1 → (G2.set 1 Z)[b]? = G2[b]? := fun Z b hb => List.getElem?_set_ne (Ne.symm hb)
 have g3 := fun Z => f2.frame (G' := G2.set 1 Z) (by simp) fun d hd b hb => same Z b (by have := (f2 d hd).2 b hb; omega)
 have g1 := fun Z => f3.frame (G' := G2.set 1 Z) (by simp) fun d hd b hb => same Z b (by have := (f3 d hd).2 b hb; omega)
 have sl := fun Z : Blk => (List.getElem?_set_self (l := G2) (a := Z) hGl)
 unfold xDn
 unfold Da.av Da.cells
 simp only [xAE,xBh]
 unfold Da.cells at e1 b0
 have hb : xA3 L a56 [.agg [.int .i64 D.vars,.int .i64 D.empty,.sl false D.next.length (D.next.map rowsD),.sl false D.fin.length (bools D.fin)]] [] =
   some (.agg [.int .i64 D.vars,.int .i64 0,.own false i 0 (xCj D).length 1,.own false k 0 (xCj D).length 1],G2.set 1 (.cells false false [.int .i64 D.vars,.int .i64 0,.own false i 0 (xCj D).length 1,.own false k 0 (xCj D).length 1])) := by
  have hu0 : ∀ a b : AV,xTU a b [] = some [(a,b)] := fun _ _ => rfl
  rw [a56]
  simp (maxSteps := 30000000) (disch := first | assumption | omega | (simp only [WL,AV.isCell,xAa] <;> omega) | rfl | decide) only [WB,Nat.reduceSub,AV.cells,AV.isCell,↓reduceIte,WM,Nat.reduceAdd,hu0,e1,b0,b5,f1,b1,sl]
 rw [yJu]
 refine xD1 hb ?_
 show ((([AV.int .i64 D.vars,.int .i64 0,.own false i 0 (xCj D).length 1,.own false k 0 (xCj D).length 1]).mapM (frz 5 _)).map AV.agg) = _
 simp only [List.mapM_cons,List.mapM_nil,xCy,(g3 _ 5 (by omega)).1,(g1 _ 5 (by omega)).1,Option.pure_def,Option.bind_eq_bind,Option.bind_some,Option.map_some]
theorem yBR {o : List Int} {s : Int} (h : s ∈ o) : xZQ o s < o.length ∧ o.getD (xZQ o s) 0 = s := by
 unfold xZQ
 cases hi : xD8 s o 0 with
 | none => exact absurd h (idxI_none.1 hi)
 | some j =>
  obtain ⟨_,q⟩ := xJm hi
  rw [Nat.sub_zero] at q
  obtain ⟨h1,h2⟩ := List.getElem?_eq_some_iff.1 q
  refine ⟨h1,?_⟩
  show o.getD j 0 = s
  rw [List.getD_eq_getElem?_getD,q]; rfl
theorem xEC {v e : Int} {nxt : Nat → Nat → Nat → Int} {fin : Nat → Bool} {n : Nat} (v0 : 0 ≤ v) (v3 : v ≤ 3) (n0 : 0 < n) (n64 : n ≤ 64) (e0 : 0 ≤ e) (en : e < n) (hb : ∀ i j x,i < n → j < n → x < two v → 0 ≤ nxt i j x ∧ nxt i j x < n) : Va ⟨v,e,xBB v nxt n n,xD6 fin n⟩ := by
 refine ⟨v0,v3,by rw [xAE]; exact n0,by rw [xAE]; exact n64,by rw [xAE,xBh],e0,by rw [xAE]; exact en,fun rows hr => ?_,fun rows hr row hw => ?_,fun rows hr row hw s hs => ?_⟩
 ·obtain ⟨l,_,rfl⟩ := List.mem_map.1 hr
  rw [xAE]; exact xB7 ..
 ·obtain ⟨l,_,rfl⟩ := List.mem_map.1 hr
  obtain ⟨r,_,rfl⟩ := List.mem_map.1 hw
  exact xCN ..
 ·obtain ⟨l,hl,rfl⟩ := List.mem_map.1 hr
  obtain ⟨r,hr',rfl⟩ := List.mem_map.1 hw
  obtain ⟨x,hx,rfl⟩ := List.mem_map.1 hs
  rw [xAE]
  exact hb l r x (List.mem_range.1 hl) (List.mem_range.1 hr') (List.mem_range.1 hx)
theorem xGQ (D : Da) : 0 < (xCj D).length := by have := xDQ (xGP (D := D)); simp at this; omega
theorem xC3 {D : Da} (hV : Va D) : Va (xDn D) := by
 have hle := (xC2 hV).1.le
 have n64 := hV.n64
 have hp := xGQ D
 refine xEC hV.v0 hV.v3 hp (by omega) (Int.le_refl _) (by omega) fun i j x hi hj hx => ?_
 have := (yBR (xFu hle hi hj hx)).1
 unfold yHr
 omega
structure DOwn (D : Da) (i k : Nat) (B : xAc) : Prop where
 tN : TV2 B (.own false i 0 D.next.length 1)
 tF : TB B (.own false k 0 D.fin.length 1)
 fN : ∀ d,3 ≤ d → frz d B (.own false i 0 D.next.length 1) = some (.sl false D.next.length (D.next.map rowsD))
 fF : ∀ d,1 ≤ d → frz d B (.own false k 0 D.fin.length 1) = some (.sl false D.fin.length (bools D.fin))
abbrev Da.ow (D : Da) (i k : Nat) : AV := .agg [.int .i64 D.vars,.int .i64 D.empty,.own false i 0 D.next.length 1,.own false k 0 D.fin.length 1]
theorem DOwn.lift {D : Da} {i k : Nat} {B : xAc} (h : DOwn D i k B) (H T : xAc) : DOwn D (H.length + i) (H.length + k) (H ++ (B.map (xAP H.length) ++ T)) := by
 have l1 : xAK H.length (.own false i 0 D.next.length 1) = .own false (H.length + i) 0 D.next.length 1 := rfl
 have l2 : xAK H.length (.own false k 0 D.fin.length 1) = .own false (H.length + k) 0 D.fin.length 1 := rfl
 have a := TV2.lift (H := H) (T' := T) h.tN
 have b := TB.lift (H := H) (T' := T) h.tF
 have c := fun d hd => TV2.frzl (H := H) (T' := T) h.tN (h.fN d hd)
 have e := fun d hd => TB.frzl (H := H) (T' := T) h.tF (h.fF d hd)
 rw [l1] at a
 rw [l2] at b
 simp only [l1] at c
 simp only [l2] at e
 exact ⟨a,b,c,e⟩
set_option maxHeartbeats 2000000 in
theorem xJg {D : Da} (hV : Va D) : ∃ i k B,xAL L 56 [D.av] = some ((xDn D).ow i k,B) ∧ DOwn (xDn D) i k B := by
 have n64 := hV.n64
 have n0 := hV.n0
 have hI0 : RenI D [D.empty] 4 [.cells false false D.cells,.cells false false [.int .i64 0,.int .i64 0,.sl true 0 [],.sl true 0 []],.mp [(.int .i64 D.empty,.int .i64 0)],.cells false false [.mp 2],.cells false false [.int .i64 D.empty],.cells false false [.own false 4 0 1 1]] :=
  ⟨⟨by simp,fun s hs => by rw [List.mem_singleton] at hs; subst hs; exact ⟨hV.e0,hV.en⟩⟩,rfl,rfl,rfl,rfl,rfl,rfl,.inl rfl⟩
 obtain ⟨G1,lb,e1,e2⟩ := xQE (xZA hV) hI0 rfl rfl
 have e2' : RenI D (xCj D) lb G1 := e2
 have hok := e2'.ok
 have hle := hok.le
 have hpos : 0 < (xCj D).length := xGQ D
 have h6 := (List.getElem?_eq_some_iff.1 e2'.b5).1
 have hR : Rd D.vars (xCj D).length G1.length (.func 103 [.ptr 3 0,.ptr 0 0,.ptr 5 0]) (.func 104 [.ptr 0 0,.ptr 5 0]) (yHr D) (yIC D) (fun G => RenI D (xCj D) lb G) :=
  ⟨hV.v0,hV.v3,hpos,by omega,fun G G' hJ hb => by
   have l5 := (List.getElem?_eq_some_iff.1 e2'.bl).1
   exact ⟨hJ.ok,(hb 0 (by omega)).trans hJ.b0,(hb 1 (by omega)).trans hJ.b1,(hb 2 (by omega)).trans hJ.b2,(hb 3 (by omega)).trans hJ.b3,(hb 5 (by omega)).trans hJ.b5,(hb lb l5).trans hJ.bl,hJ.lo⟩,
   fun G l r x hJ hl hr hx => xZB hV hJ hl hr hx (xFu hle hl hr hx),
   fun G l hJ hl => ⟨[],by rw [List.append_nil]; exact xZC hV hJ hl⟩⟩
 obtain ⟨G2,i,k,f1,f2,f3,f4,f5,t1,t2⟩ := xRs hR e2'
 have b0 := e2'.b0
 have b1 := (f4 1 (by omega)).trans e2'.b1
 have b5 := e2'.b5
 have hGl : 1 < G2.length := by omega
 have same : ∀ (Z : Blk) b,b ≠ 1 → (G2.set 1 Z)[b]? = G2[b]? := fun Z b hb => List.getElem?_set_ne (Ne.symm hb)
 have g3 := fun Z => f2.frame (G' := G2.set 1 Z) (by simp) fun d hd b hb => same Z b (by have := (f2 d hd).2 b hb; omega)
 have g1 := fun Z => f3.frame (G' := G2.set 1 Z) (by simp) fun d hd b hb => same Z b (by have := (f3 d hd).2 b hb; omega)
 have sl := fun Z : Blk => (List.getElem?_set_self (l := G2) (a := Z) hGl)
 have ln : (xDn D).next.length = (xCj D).length := xAE ..
 have lf : (xDn D).fin.length = (xCj D).length := xBh ..
 refine ⟨i,k,G2.set 1 (.cells false false [.int .i64 D.vars,.int .i64 0,.own false i 0 (xCj D).length 1,.own false k 0 (xCj D).length 1]),xA1 ?_ rfl,?_,?_,?_,?_⟩
 ·unfold Da.ow
  rw [ln,lf,show (xDn D).vars = D.vars from rfl,show (xDn D).empty = 0 from rfl]
  unfold Da.av
  unfold Da.cells at e1 b0 ⊢
  have hu0 : ∀ a b : AV,xTU a b [] = some [(a,b)] := fun _ _ => rfl
  rw [yJv,a56]
  simp (maxSteps := 30000000) (disch := first | assumption | omega | (simp only [WL,AV.isCell,xAa] <;> omega) | rfl | decide) only [WB,Nat.reduceSub,AV.cells,AV.isCell,↓reduceIte,WM,Nat.reduceAdd,hu0,e1,b0,b5,f1,b1,sl]
 ·rw [ln]
  exact t1.frame (d := 0) fun b hb => same _ b (by have := (f2 3 (Nat.le_refl _)).2 b hb; omega)
 ·rw [lf]
  exact t2.frame (d := 0) fun b hb => same _ b (by have := (f3 1 (Nat.le_refl _)).2 b hb; omega)
 ·intro d hd
  rw [ln]
  exact (g3 _ d hd).1
 ·intro d hd
  rw [lf]
  exact (g1 _ d hd).1
theorem xRx {D : Da} (hV : Va D) : ∃ i k B,xAL L 21 [D.av] = some (.tup [(xDn D).ow i k,.int .i64 0],B) ∧ DOwn (xDn D) i k B := by
 obtain ⟨i,k,B,h1,h2⟩ := xJg hV
 have h14 := xD2 D hV
 have h3 := h2.lift [.cells false false D.cells,.cells false false [.int .i64 (xDn D).vars,.int .i64 (xDn D).empty,.own false (2 + i) 0 (xDn D).next.length 1,.own false (2 + k) 0 (xDn D).fin.length 1]] []
 refine ⟨2 + i,2 + k,_,xA1 ?_ rfl,h3⟩
 rw [List.append_nil]
 clear h2 h3
 generalize xDn D = R at *
 unfold Da.av at h1 h14 ⊢
 unfold Da.cells at h1 h14 ⊢
 rw [yIJ,a21]
 simp (maxSteps := 30000000) (disch := first | assumption | omega | (simp only [WL,AV.isCell,xAa] <;> omega) | rfl | decide) only [WB,Nat.reduceSub,AV.cells,AV.isCell,↓reduceIte,h14,xA0,xAx,xDs,xBZ,h1,xDt,xB4,xDc,Nat.reduceAdd,xAK]
def NG (D : Da) (G0 : xAc) (F : List Int) (R : List Rl) (G : xAc) : Prop := ∃ vF vR,(∀ b,b < 3 → G[b]? = G0[b]?) ∧
 G[3]? = some (.cells false false [.int .i64 D.vars,.int .i64 (D.next.length : Nat),.own false 2 0 1 1,vF,vR]) ∧ LstE 1 4 G vF F.length (ints F) ∧ LstE 5 4 G vR R.length (rls R) ∧ ∀ b,At vF b → ¬ At vR b
theorem NG.rule {D : Da} {G0 : xAc} {F : List Int} {R : List Rl} {G : xAc} (h : NG D G0 F R G) (u : Rl) (hR : R.length ≤ 5000) : ∃ vF vR vR' G1,
  (∀ b,b < 3 → G[b]? = G0[b]?) ∧ G[3]? = some (.cells false false [.int .i64 D.vars,.int .i64 (D.next.length : Nat),.own false 2 0 1 1,vF,vR]) ∧ xQQ false 5 32 G vR (some (1,xLq u)) = some (vR',G1) ∧
  G1[3]? = some (.cells false false [.int .i64 D.vars,.int .i64 (D.next.length : Nat),.own false 2 0 1 1,vF,vR]) ∧
  NG D G0 F (R ++ [u]) (G1.set 3 (.cells false false [.int .i64 D.vars,.int .i64 (D.next.length : Nat),.own false 2 0 1 1,vF,vR'])) ∧ ∃ id m,vR' = .own false id 0 m 5 := by
 obtain ⟨vF,vR,h0,h2,hF,hV,hd⟩ := h
 have l2 := (List.getElem?_eq_some_iff.1 h2).1
 obtain ⟨vR',G1,p1,p2,p3,p4,p5,id,m,rfl⟩ := hV.push (xLq u) rfl (bytes := 32) (by omega) (by omega) (by omega)
 have hl := p3.1
 have e2 : rls R ++ xLq u = rls (R ++ [u]) := by simp [rls,rows]
 rw [e2,show R.length + 1 = (R ++ [u]).length by simp] at p2
 have hF1 : LstE 1 4 G1 vF F.length (ints F) := hF.other fun b hb => p4 b (hF.inb hb).1 (hd b hb)
 have ne : ∀ (X : Blk) b,b ≠ 3 → (G1.set 3 X)[b]? = G1[b]? := fun X b hb => List.getElem?_set_ne (Ne.symm hb)
 refine ⟨vF,vR,_,G1,h0,h2,p1,(p3.2 3 (by omega)).trans h2,⟨vF,_,?_,List.getElem?_set_self (by omega),hF1.other fun b hb => ne _ b (by have := (hF1.inb hb).2; omega),p2.other fun b hb => ne _ b (by have := (p2.inb hb).2; omega),fun b hb q => ?_⟩,id,m,rfl⟩
 ·intro b hb
  rw [ne _ b (by omega)]; exact (p3.2 b (by omega)).trans (h0 b hb)
 ·have := p5 b q
  have := (hF.inb hb).1
  omega
theorem NG.final {D : Da} {G0 : xAc} {F : List Int} {R : List Rl} {G : xAc} (h : NG D G0 F R G) (u : Int) (hR : F.length ≤ 5000) : ∃ vF vR vF' G1,
  G[3]? = some (.cells false false [.int .i64 D.vars,.int .i64 (D.next.length : Nat),.own false 2 0 1 1,vF,vR]) ∧ xQQ false 1 8 G vF (some (1,[.int .i64 u])) = some (vF',G1) ∧
  G1[3]? = some (.cells false false [.int .i64 D.vars,.int .i64 (D.next.length : Nat),.own false 2 0 1 1,vF,vR]) ∧
  NG D G0 (F ++ [u]) R (G1.set 3 (.cells false false [.int .i64 D.vars,.int .i64 (D.next.length : Nat),.own false 2 0 1 1,vF',vR])) ∧ ∃ id m,vF' = .own false id 0 m 1 := by
 obtain ⟨vF,vR,h0,h2,hF,hV,hd⟩ := h
 have l2 := (List.getElem?_eq_some_iff.1 h2).1
 obtain ⟨vF',G1,p1,p2,p3,p4,p5,id,m,rfl⟩ := hF.push [.int .i64 u] rfl (bytes := 8) (by omega) (by omega) (by omega)
 have hl := p3.1
 have e2 : ints F ++ [.int .i64 u] = ints (F ++ [u]) := by simp [ints]
 rw [e2,show F.length + 1 = (F ++ [u]).length by simp] at p2
 have hV1 : LstE 5 4 G1 vR R.length (rls R) := hV.other fun b hb => p4 b (hV.inb hb).1 (fun q => hd b q hb)
 have ne : ∀ (X : Blk) b,b ≠ 3 → (G1.set 3 X)[b]? = G1[b]? := fun X b hb => List.getElem?_set_ne (Ne.symm hb)
 refine ⟨vF,vR,_,G1,h2,p1,(p3.2 3 (by omega)).trans h2,⟨_,vR,?_,List.getElem?_set_self (by omega),p2.other fun b hb => ne _ b (by have := (p2.inb hb).2; omega),hV1.other fun b hb => ne _ b (by have := (hV1.inb hb).2; omega),fun b hb q => ?_⟩,id,m,rfl⟩
 ·intro b hb
  rw [ne _ b (by omega)]; exact (p3.2 b (by omega)).trans (h0 b hb)
 ·have := p5 b hb
  have := (hV.inb q).1
  omega
section
variable {D : Da} {G0 : xAc} {F : List Int} {s41 s42 s43 s59 s60 s61 : AV}
set_option maxHeartbeats 1000000 in
theorem yID (hV : Va D) {l r : Nat} (hl : l < D.next.length) (hr : r < D.next.length) : ∀ d x R G,x + d = two D.vars → R.length + d ≤ 5000 → NG D G0 F R G →
  ∃ G',L.loop xM2 xZ1 ⟨xM3 (.ptr 0 0) (.ptr 1 0) (.int .i64 (two D.vars : Nat)) (.ptr 3 0) (.int .i64 (l : Nat)) (.int .i64 (r : Nat)) s41 s42 s43 s59 s60 s61 (rowT ((D.next.getD l []).getD r [])) (.int .i64 (two D.vars : Nat)) (.int .i64 (x : Nat)),G⟩ =
   some (.exit 4,⟨xM3 (.ptr 0 0) (.ptr 1 0) (.int .i64 (two D.vars : Nat)) (.ptr 3 0) (.int .i64 (l : Nat)) (.int .i64 (r : Nat)) s41 s42 s43 s59 s60 s61 (rowT ((D.next.getD l []).getD r [])) (.int .i64 (two D.vars : Nat)) (.int .i64 (two D.vars : Nat)),G'⟩) ∧
   NG D G0 F (R ++ (rlX D l r (two D.vars)).drop x) G' := by
 have h8 := (xAV hV.v3).1
 have m1 := xAl (a := ([] : List (List Int))) hl
 have m2 := hV.rl _ m1
 have m3 := xAl (a := ([] : List Int)) (show r < (D.next.getD l []).length by omega)
 have m4 := hV.cl _ m1 _ m3
 intro d
 induction d with
 | zero =>
  intro x R G h hR hN
  obtain rfl : x = two D.vars := by omega
  refine ⟨G,?_,by rw [List.drop_of_length_le (by rw [xEz]; omega),List.append_nil]; exact hN⟩
  rw [yB6]
  simp (maxSteps := 30000000) (disch := first | assumption | omega | (simp only [WL,AV.isCell,xAa,xAn] <;> omega) | rfl | decide) only [xRN,rowT,WB,↓reduceIte,xVK]
 | succ d ih =>
  intro x R G h hR hN
  have hlt : (x : Int) < (two D.vars : Nat) := by omega
  obtain ⟨vF,vR,vR',G1,g0,g2,p1,g2',hN',id,m,rfl⟩ := hN.rule ⟨(l : Nat),(r : Nat),nx D (l : Nat) (r : Nat) x,x,two D.vars - 1 - x⟩ (by omega)
  obtain ⟨G',q1,q2⟩ := ih (x + 1) (R ++ [⟨(l : Nat),(r : Nat),nx D (l : Nat) (r : Nat) x,x,two D.vars - 1 - x⟩]) _ (by omega) (by simp; omega) hN'
  refine ⟨G',?_,?_⟩
  ·have hnx : nx D (l : Nat) (r : Nat) x = ((D.next.getD l []).getD r []).getD x 0 := rfl
   have g1 : List.take 1 (List.drop x (ints ((D.next.getD l []).getD r []))) = [.int .i64 (nx D (l : Nat) (r : Nat) x)] := xAr _ _ (by omega)
   simp only [xLq] at p1
   rw [hnx] at p1
   unfold rowT at q1
   rw [m4] at q1
   generalize (D.next.getD l []).getD r [] = row at *
   have cx : IntKind.u8.wrap (x : Int) = (x : Int) := by simp [IntKind.wrap,IntKind.bits,IntKind.signed]; omega
   have cy : IntKind.u8.wrap (((two D.vars : Nat) : Int) - 1 - (x : Int)) = ((two D.vars - 1 - x : Nat) : Int) := by
    rw [show ((two D.vars : Nat) : Int) - 1 - (x : Int) = ((two D.vars - 1 - x : Nat) : Int) by omega]
    simp [IntKind.wrap,IntKind.bits,IntKind.signed]; omega
   rw [yB6]
   simp (maxSteps := 30000000) (disch := first | assumption | omega | (simp only [WL,AV.isCell,xAa,xAn] <;> omega) | rfl | decide) only [xRN,rowT,m4,WB,hlt,↓reduceIte,W2,g2,cx,AV.cells,Nat.reduceAdd,Nat.reduceLeDiff,AV.isCell,Nat.reduceMul,p1,g2',xVK,q1]
  ·rw [List.append_assoc] at q2
   have hd : (rlX D l r (two D.vars)).drop x = ⟨(l : Nat),(r : Nat),nx D (l : Nat) (r : Nat) x,x,two D.vars - 1 - x⟩ :: (rlX D l r (two D.vars)).drop (x + 1) := by
    rw [List.drop_eq_getElem_cons (by rw [xEz]; omega)]
    congr 1
    simp [rlX]
   rw [hd]
   exact q2
set_option maxHeartbeats 1000000 in
theorem yG2 (hV : Va D) {l : Nat} (hl : l < D.next.length) : ∀ d r R G,r + d = D.next.length → R.length + d * two D.vars ≤ 5000 → NG D G0 F R G →
  ∃ G',L.loop xM4 xZ2 ⟨xM5 (.ptr 0 0) (.ptr 1 0) (.int .i64 (two D.vars : Nat)) (.ptr 3 0) (.int .i64 (l : Nat)) s41 s42 s43 (rowsD (D.next.getD l [])) (.int .i64 (D.next.length : Nat)) (.int .i64 (r : Nat)),G⟩ =
   some (.exit 2,⟨xM5 (.ptr 0 0) (.ptr 1 0) (.int .i64 (two D.vars : Nat)) (.ptr 3 0) (.int .i64 (l : Nat)) s41 s42 s43 (rowsD (D.next.getD l [])) (.int .i64 (D.next.length : Nat)) (.int .i64 (D.next.length : Nat)),G'⟩) ∧
   ∀ R0,R = R0 ++ rlR D l r → NG D G0 F (R0 ++ rlR D l D.next.length) G' := by
 have h8 := (xAV hV.v3).1
 have n64 := hV.n64
 have m1 := xAl (a := ([] : List (List Int))) hl
 have m2 := hV.rl _ m1
 intro d
 induction d with
 | zero =>
  intro r R G h hR hN
  obtain rfl : r = D.next.length := by omega
  refine ⟨G,?_,fun R0 e => by rw [← e]; exact hN⟩
  rw [yB7]
  simp (maxSteps := 30000000) (disch := first | assumption | omega | (simp only [WL,AV.isCell,xAa,xAn] <;> omega) | rfl | decide) only [xRO,rowsD,m2,WB,↓reduceIte,xRP]
 | succ d ih =>
  intro r R G h hR hN
  have hlt : (r : Int) < (D.next.length : Nat) := by omega
  have hr : r < D.next.length := by omega
  rw [Nat.add_mul,Nat.one_mul] at hR
  have m3 := xAl (a := ([] : List Int)) (show r < (D.next.getD l []).length by omega)
  have m4 := hV.cl _ m1 _ m3
  obtain ⟨G1,q1,q2⟩ := yID (s41 := s41) (s42 := s42) (s43 := s43) (s59 := rowsD (D.next.getD l [])) (s60 := .int .i64 (D.next.length : Nat)) (s61 := .int .i64 (r : Nat)) hV hl hr (two D.vars) 0 R G (by omega) (by omega) hN
  rw [List.drop_zero] at q2
  obtain ⟨G',r1,r2⟩ := ih (r + 1) _ G1 (by omega) (by rw [List.length_append,xEz]; omega) q2
  refine ⟨G',?_,fun R0 e => r2 R0 (by rw [e,xMr,List.append_assoc])⟩
  have hr2 : r < (D.next.getD l []).length := by omega
  simp only [Int.natCast_zero] at q1
  generalize D.next.getD l [] = rows at *
  unfold rowT at q1
  unfold rowsD at q1 r1 ⊢
  rw [m4] at q1
  rw [m2] at q1 r1 ⊢
  rw [yB7]
  simp (maxSteps := 30000000) (disch := first | assumption | omega | (simp only [WL,AV.isCell,xAa,xAn] <;> omega) | rfl | decide) only [xRO,WB,hlt,↓reduceIte,xBy,rowT,m4,xVK,q1,xRP,r1]
set_option maxHeartbeats 1000000 in
theorem yIE (hV : Va D) (h00 : G0[0]? = some (.cells false false D.cells)) (hn : D.next.length * (D.next.length * two D.vars) ≤ 512) : ∀ d l G,l + d = D.next.length → NG D G0 (fiL D l) (rlL D l) G →
  ∃ G',L.loop xM7 xZ3 ⟨xM8 (.ptr 0 0) (.ptr 1 0) (.int .i64 (two D.vars : Nat)) (.ptr 3 0) (.sl false D.next.length (D.next.map rowsD)) (.int .i64 (D.next.length : Nat)) (.int .i64 (l : Nat)),G⟩ =
   some (.exit 0,⟨xM8 (.ptr 0 0) (.ptr 1 0) (.int .i64 (two D.vars : Nat)) (.ptr 3 0) (.sl false D.next.length (D.next.map rowsD)) (.int .i64 (D.next.length : Nat)) (.int .i64 (D.next.length : Nat)),G'⟩) ∧
   NG D G0 (fiL D D.next.length) (rlL D D.next.length) G' := by
 have n64 := hV.n64
 have fl := hV.fl
 intro d
 induction d with
 | zero =>
  intro l G h hN
  obtain rfl : l = D.next.length := by omega
  refine ⟨G,?_,hN⟩
  rw [xVL]
  simp (maxSteps := 30000000) (disch := first | assumption | omega | (simp only [WL,AV.isCell,xAa,xAn] <;> omega) | rfl | decide) only [xM6,WB,↓reduceIte,xRQ]
 | succ d ih =>
  intro l G h hN
  have hlt : (l : Int) < (D.next.length : Nat) := by omega
  have hl : l < D.next.length := by omega
  have m1 := xAl (a := ([] : List (List Int))) hl
  have m2 := hV.rl _ m1
  have hfs := xT2 D l
  have hfl := xMt D l
  have hrl := xMs D l
  have hle : l * (D.next.length * two D.vars) ≤ D.next.length * (D.next.length * two D.vars) := Nat.mul_le_mul_right _ (by omega)
  have h1 : D.next.length * two D.vars ≤ D.next.length * (D.next.length * two D.vars) := Nat.le_mul_of_pos_left _ (by omega)
  have gf : List.take 1 (List.drop l (bools D.fin)) = [.bool (D.fin.getD l false)] := xDN (by omega)
  obtain ⟨vF0,vR0,hb0,hrest⟩ := hN
  have b0 := (hb0 0 (by omega)).trans h00
  have hN : NG D G0 (fiL D l) (rlL D l) G := ⟨vF0,vR0,hb0,hrest⟩
  cases c : D.fin.getD l false with
  | true =>
   rw [c,if_pos rfl] at hfs
   rw [c] at gf
   obtain ⟨vF,vR,vF',G1,g2,p1,g2',hN',id,m,rfl⟩ := hN.final (l : Int) (by omega)
   rw [← hfs] at hN'
   obtain ⟨G2,q1,q2⟩ := yG2 (s41 := .sl false D.next.length (D.next.map rowsD)) (s42 := .int .i64 (D.next.length : Nat)) (s43 := .int .i64 (l : Nat)) hV hl D.next.length 0 _ _ (by omega) (by omega) hN'
   have hN2 := q2 (rlL D l) (by simp [rlR])
   rw [← xGJ] at hN2
   obtain ⟨G',r1,r2⟩ := ih (l + 1) G2 (by omega) hN2
   refine ⟨G',?_,r2⟩
   simp only [Int.natCast_zero] at q1
   rw [show rowsD (D.next.getD l []) = .sl false (D.next.getD l []).length ((D.next.getD l []).map rowT) from rfl,m2] at q1
   unfold Da.cells at b0
   rw [xVL]
   simp (maxSteps := 30000000) (disch := first | assumption | omega | (simp only [WL,AV.isCell,xAa,xAn] <;> omega) | rfl | decide) only [xM6,WB,hlt,↓reduceIte,xA2,rowsD,m2,b0,fl,gf,g2,AV.cells,AV.isCell,p1,g2',Nat.reduceAdd,xRP,q1,xRQ,r1]
  | false =>
   rw [c,if_neg (by simp)] at hfs
   rw [c] at gf
   rw [← hfs] at hN
   obtain ⟨G2,q1,q2⟩ := yG2 (s41 := .sl false D.next.length (D.next.map rowsD)) (s42 := .int .i64 (D.next.length : Nat)) (s43 := .int .i64 (l : Nat)) hV hl D.next.length 0 _ _ (by omega) (by omega) hN
   have hN2 := q2 (rlL D l) (by simp [rlR])
   rw [← xGJ] at hN2
   obtain ⟨G',r1,r2⟩ := ih (l + 1) G2 (by omega) hN2
   refine ⟨G',?_,r2⟩
   simp only [Int.natCast_zero] at q1
   rw [show rowsD (D.next.getD l []) = .sl false (D.next.getD l []).length ((D.next.getD l []).map rowT) from rfl,m2] at q1
   unfold Da.cells at b0
   rw [xVL]
   simp (maxSteps := 30000000) (disch := first | assumption | omega | (simp only [WL,AV.isCell,xAa,xAn] <;> omega) | rfl | decide) only [xM6,WB,hlt,↓reduceIte,xA2,rowsD,m2,b0,fl,gf,xRP,q1,xRQ,r1]
def TR (G : xAc) (v : AV) : Prop := v = .sl true 0 [] ∨ ∃ (id : Nat) (l : List Rl),v = .own false id 0 l.length 5 ∧ G[id]? = some (.cells false false (rls l)) ∧ l.length ≤ 5000
structure NOwn (D : Da) (i : Nat) (vF vR : AV) (B : xAc) : Prop where
 tE : B[i]? = some (.cells false false (ints [D.empty]))
 tF : TV0 B vF
 tR : TR B vR
 fF : ∀ d,1 ≤ d → frz d B vF = some (.sl ((fiL D D.next.length).length == 0) (fiL D D.next.length).length (ints (fiL D D.next.length)))
 fR : ∀ d,1 ≤ d → frz d B vR = some (.sl ((rlL D D.next.length).length == 0) (rlL D D.next.length).length (rls (rlL D D.next.length)))
set_option maxHeartbeats 2000000 in
theorem yBS (hV : Va D) (hn : D.next.length * (D.next.length * two D.vars) ≤ 512) : ∃ vF vR B,xAL L 27 [D.av] = some (.tup [.agg [.int .i64 D.vars,.int .i64 (D.next.length : Nat),.own false 2 0 1 1,vF,vR],.int .i64 0],B) ∧ NOwn D 2 vF vR B := by
 have hk := xD2 D hV
 have h8 := (xAV hV.v3).1
 have hsh := xBU hV.v0 hV.v3
 have hv : ¬ D.vars < 0 := by have := hV.v0; omega
 have n64 := hV.n64
 have hn2 : D.next.length * D.next.length * two D.vars ≤ 512 := by rw [Nat.mul_assoc]; exact hn
 have hn3 : (512 < ((D.next.length * D.next.length * two D.vars : Nat) : Int)) = False := eq_false (by omega)
 have hm64 : D.next.length * D.next.length ≤ 64 * 64 := Nat.mul_le_mul n64 n64
 have hN0 : NG D [.cells false false D.cells,.cells false false [.int .i64 0,.int .i64 0,.sl true 0 [],.sl true 0 [],.sl true 0 []],.cells false false [.int .i64 D.empty]] (fiL D 0) (rlL D 0) [.cells false false D.cells,.cells false false [.int .i64 0,.int .i64 0,.sl true 0 [],.sl true 0 [],.sl true 0 []],.cells false false [.int .i64 D.empty],.cells false false [.int .i64 D.vars,.int .i64 (D.next.length : Nat),.own false 2 0 1 1,.sl true 0 [],.sl true 0 []]] :=
  ⟨.sl true 0 [],.sl true 0 [],fun b hb => by
   have : b = 0 ∨ b = 1 ∨ b = 2 := by omega
   rcases this with rfl | rfl | rfl <;> rfl,rfl,.nil _ _ _,.nil _ _ _,fun b hb => by obtain ⟨z,o,n,es,e⟩ := hb; cases e⟩
 obtain ⟨G,q1,vF,vR,b0,b2,hF,hR,hd⟩ := yIE hV rfl hn D.next.length 0 _ (by omega) hN0
 have l2 := (List.getElem?_eq_some_iff.1 b2).1
 have b1 := (b0 1 (by omega)).trans rfl
 have sl := fun Z : Blk => (List.getElem?_set_self (l := G) (a := Z) (show 1 < G.length by omega))
 have ne := fun (Z : Blk) b (hb : b ≠ 1) => (List.getElem?_set_ne (l := G) (a := Z) (Ne.symm hb))
 have hF2 := fun Z : Blk => hF.other (H' := G.set 1 Z) fun b hb => List.getElem?_set_ne (by have := (hF.inb hb).2; omega)
 have hR2 := fun Z : Blk => hR.other (H' := G.set 1 Z) fun b hb => List.getElem?_set_ne (by have := (hR.inb hb).2; omega)
 have hfl := xMt D D.next.length
 have hrl := xMs D D.next.length
 simp only [Int.natCast_zero] at q1
 refine ⟨vF,vR,G.set 1 (.cells false false [.int .i64 D.vars,.int .i64 (D.next.length : Nat),.own false 2 0 1 1,vF,vR]),xA1 ?_ ?_,?_,?_,?_,?_,?_⟩
 ·unfold Da.av at hk ⊢
  unfold Da.cells at hk q1 ⊢
  have hm64' := hm64
  rcases hF with ⟨_,_,rfl⟩ | ⟨jF,rfl,_⟩ <;> rcases hR with ⟨_,_,rfl⟩ | ⟨jR,rfl,_⟩ <;>
  ·rw [yHK,a27]
   simp (maxSteps := 30000000) (disch := first | assumption | omega | (simp only [WL,AV.isCell,xAa,xAn] <;> omega) | rfl | decide) only [WB,Nat.reduceSub,AV.cells,AV.isCell,↓reduceIte,hk,xA0,xAx,hsh,xAj,hn3,Nat.reduceAdd,Nat.reduceLeDiff,xRQ,q1,b2,b1,sl]
 ·rcases hF with ⟨_,_,rfl⟩ | ⟨jF,rfl,_⟩ <;> rcases hR with ⟨_,_,rfl⟩ | ⟨jR,rfl,_⟩ <;> rfl
 ·rw [ne _ 2 (by omega),b0 2 (by omega)]; rfl
 ·rcases hF2 (.cells false false [.int .i64 D.vars,.int .i64 (D.next.length : Nat),.own false 2 0 1 1,vF,vR]) with ⟨_,_,e⟩ | ⟨j,e,h,_⟩
  ·exact .inl e
  ·exact .inr ⟨j,_,e,h,by omega⟩
 ·rcases hR2 (.cells false false [.int .i64 D.vars,.int .i64 (D.next.length : Nat),.own false 2 0 1 1,vF,vR]) with ⟨_,_,e⟩ | ⟨j,e,h,_⟩
  ·exact .inl e
  ·exact .inr ⟨j,_,e,h,by omega⟩
 ·intro d hd
  obtain ⟨e,rfl⟩ : ∃ e,d = e + 1 := ⟨d - 1,by omega⟩
  exact (hF2 _).dat (xQg _) e
 ·intro d hd
  obtain ⟨e,rfl⟩ : ∃ e,d = e + 1 := ⟨d - 1,by omega⟩
  exact (hR2 _).dat (xYE _) e
end
def TS0 (G : xAc) (v : AV) : Prop := v = .sl true 0 [] ∨ ∃ (id m : Nat) (l : List Int),v = .own false id 0 m 1 ∧ G[id]? = some (.cells false false (ints l)) ∧ m ≤ l.length ∧ l.length < 1099511627776
theorem TV0.s {G : xAc} {v : AV} (h : TV0 G v) : TS0 G v := by
 rcases h with h | ⟨id,l,rfl,hg,hs⟩
 ·exact .inl h
 ·exact .inr ⟨id,l.length,l,rfl,hg,Nat.le_refl _,hs⟩
theorem TS0.tw {G G' : xAc} {v : AV} (h : TS0 G v) (ht : Tw G G') : TS0 G' v := by
 rcases h with h | ⟨id,m,l,rfl,hg,hm,hs⟩
 ·exact .inl h
 ·obtain ⟨l',h1,h2⟩ := ht.ints hg
  exact .inr ⟨id,m,l',rfl,h2,by omega,by omega⟩
theorem TS0.lift {H B T' : xAc} {v : AV} (h : TS0 B v) : TS0 (H ++ (B.map (xAP H.length) ++ T')) (xAK H.length v) := by
 rcases h with rfl | ⟨id,m,l,rfl,hg,hm,hs⟩
 ·exact .inl rfl
 ·exact .inr ⟨H.length + id,m,l,rfl,by rw [xDe hg (xD4 l),xFm],hm,hs⟩
theorem TS0.frzl {H B T' : xAc} {v t : AV} {d : Nat} (h : TS0 B v) (hf : frz d B v = some t) : frz d (H ++ (B.map (xAP H.length) ++ T')) (xAK H.length v) = some t := by
 rcases h with rfl | ⟨id,m,l,rfl,hg,hm,hs⟩
 ·exact xI6 hf
 ·cases d with
  | zero => cases hf
  | succ d => exact xGM hg (xD4 l) (fun c hc t ht => xMx (.inl (by obtain ⟨x,_,rfl⟩ := List.mem_map.1 hc; exact ⟨x,rfl⟩)) ht) hf
theorem TS0.cell {G : xAc} {v : AV} (h : TS0 G v) : v = .sl true 0 [] ∨ ∃ id n,v = .own false id 0 n 1 := by
 rcases h with h | ⟨id,m,l,h,_⟩
 ·exact .inl h
 ·exact .inr ⟨id,_,h⟩
theorem xZv {G : xAc} {v : AV} (h : TS0 G v) : ∃ G',L.icall (.func 32 []) [v] G = some (.tup [],G') ∧ Tw G G' := by
 rcases h with h | ⟨id,m,l,rfl,hg,hm,hs⟩
 ·exact xUk (.inl h)
 ·exact yEU hg hm hs
theorem yBT {l : List Rl} {l' : List Int} (h : rls l = ints l') : l = [] ∧ l' = [] := by
 cases l with
 | nil =>
  refine ⟨rfl,?_⟩
  cases l' with
  | nil => rfl
  | cons => cases h
 | cons e t =>
  have hm : AV.int .u8 (e.p : Nat) ∈ rls (e :: t) := by simp [rls,rows,xLq]
  rw [h] at hm
  obtain ⟨x,_,hx⟩ := List.mem_map.1 hm
  cases hx
theorem xZw {l : List Rl} {l' : List Bool} (h : rls l = bools l') : l = [] ∧ l' = [] := by
 cases l with
 | nil =>
  refine ⟨rfl,?_⟩
  cases l' with
  | nil => rfl
  | cons => cases h
 | cons e t =>
  have hm : AV.int .u8 (e.p : Nat) ∈ rls (e :: t) := by simp [rls,rows,xLq]
  rw [h] at hm
  obtain ⟨x,_,hx⟩ := List.mem_map.1 hm
  cases hx
theorem xZx (l : List Rl) : (rls l).any xFw = false := by
 rw [List.any_eq_false]
 intro a ha
 unfold rls rows at ha
 rw [← List.flatMap_def,List.mem_flatMap] at ha
 obtain ⟨e,_,he⟩ := ha
 simp only [xLq,List.mem_cons,List.not_mem_nil,or_false] at he
 rcases he with rfl | rfl | rfl | rfl | rfl <;> simp [xFw]
theorem Tw.rls {G G' : xAc} (h : Tw G G') {b : Nat} {l : List Rl} (hb : G[b]? = some (.cells false false (rls l))) : G'[b]? = some (.cells false false (Go.Abs.Det.rls l)) := by
 rcases h.2 b with q | ⟨a,a',h1,h2,h3⟩ | ⟨a,a',h1,h2,h3⟩
 ·exact q.trans hb
 ·obtain ⟨rfl,rfl⟩ := yBT (xBV (hb.symm.trans h2))
  have : a' = [] := List.eq_nil_of_length_eq_zero (by simpa using h1.symm)
  subst this
  exact h3
 ·obtain ⟨rfl,rfl⟩ := xZw (xBV (hb.symm.trans h2))
  have : a' = [] := List.eq_nil_of_length_eq_zero (by simpa using h1.symm)
  subst this
  exact h3
theorem TR.tw {G G' : xAc} {v : AV} (h : TR G v) (ht : Tw G G') : TR G' v := by
 rcases h with h | ⟨id,l,rfl,hg,hs⟩
 ·exact .inl h
 ·exact .inr ⟨id,l,rfl,ht.rls hg,hs⟩
theorem TR.app {G : xAc} {v : AV} (h : TR G v) (T : xAc) : TR (G ++ T) v := by
 rcases h with h | ⟨id,l,rfl,hg,hs⟩
 ·exact .inl h
 ·exact .inr ⟨id,l,rfl,xAw hg,hs⟩
theorem TV0.appd {G : xAc} {v : AV} (h : TV0 G v) (T : xAc) : TV0 (G ++ T) v := by
 rcases h with h | ⟨id,l,rfl,hg,hs⟩
 ·exact .inl h
 ·exact .inr ⟨id,l,rfl,xAw hg,hs⟩
theorem xZy (l : List Rl) : (rls l).all xGy = true := by
 rw [List.all_eq_true]; intro a ha
 unfold rls rows at ha
 rw [← List.flatMap_def,List.mem_flatMap] at ha
 obtain ⟨e,_,he⟩ := ha
 simp only [xLq,List.mem_cons,List.not_mem_nil,or_false] at he
 rcases he with rfl | rfl | rfl | rfl | rfl <;> rfl
theorem xUw (L : Nat) (l : List Rl) : (rls l).map (xAK L) = rls l := by
 have : (rls l).map (xAK L) = (rls l).map id := List.map_congr_left fun a ha => by
  unfold rls rows at ha
  rw [← List.flatMap_def,List.mem_flatMap] at ha
  obtain ⟨e,_,he⟩ := ha
  simp only [xLq,List.mem_cons,List.not_mem_nil,or_false] at he
  rcases he with rfl | rfl | rfl | rfl | rfl <;> rfl
 rw [this,List.map_id]
theorem TR.lift {H B T' : xAc} {v : AV} (h : TR B v) : TR (H ++ (B.map (xAP H.length) ++ T')) (xAK H.length v) := by
 rcases h with rfl | ⟨id,l,rfl,hg,hs⟩
 ·exact .inl rfl
 ·exact .inr ⟨H.length + id,l,rfl,by rw [xDe hg (xZy l),xUw],hs⟩
theorem TR.cell {G : xAc} {v : AV} (h : TR G v) : v = .sl true 0 [] ∨ ∃ id n,v = .own false id 0 n 5 := by
 rcases h with h | ⟨id,l,h,_⟩
 ·exact .inl h
 ·exact .inr ⟨id,_,h⟩
theorem TV0.cell {G : xAc} {v : AV} (h : TV0 G v) : v = .sl true 0 [] ∨ ∃ id n,v = .own false id 0 n 1 := by
 rcases h with h | ⟨id,l,h,_⟩
 ·exact .inl h
 ·exact .inr ⟨id,_,h⟩
theorem xRy {G : xAc} {k i : Nat} {l l' : List Rl} (hk : G[k]? = some (.cells false false (rls l))) {cs : List AV} (h : G[i]? = some (.cells false false cs)) (ho : cs.any xFw = true) : (G.set k (.cells false false (rls l')))[i]? = some (.cells false false cs) := by
 by_cases e : i = k
 ·subst e
  rw [hk] at h
  have := xBV h
  rw [← this,xZx] at ho
  cases ho
 ·rw [List.getElem?_set_ne (Ne.symm e)]; exact h
theorem yFh {G : xAc} {v : AV} (h : TR G v) : ∃ G',L.icall (.func 71 []) [v] G = some (.tup [],G') ∧ ∀ (i : Nat) cs,G[i]? = some (.cells false false cs) → cs.any xFw = true → G'[i]? = some (.cells false false cs) := by
 rcases h with rfl | ⟨id,l,rfl,hg,hs⟩
 ·refine ⟨G,?_,fun i cs h _ => h⟩
  have hl : L.loop xJ1 xWk ⟨xHf (.sl true 0 []) (.int .i64 0),G⟩ = some (.exit 0,⟨xHf (.sl true 0 []) (.int .i64 0),G⟩) := by
   rw [xWl]
   simp (maxSteps := 30000000) (disch := first | assumption | omega | (simp only [WL,AV.isCell,xAa,xAn] <;> omega) | rfl | decide) only [xOa,Int.reduceNeg,WB,↓reduceIte,xOb]
  rw [yIS,a71]
  simp (maxSteps := 30000000) (disch := first | assumption | omega | (simp only [WL,AV.isCell,xAa,xAn] <;> omega) | rfl | decide) only [WB,Nat.reduceSub,xOb,hl,↓reduceIte]
 ·obtain ⟨l',e1,e2⟩ := yGE (z := false) (by omega) hg
  exact ⟨_,e1,fun i cs h ho => xRy hg h ho⟩
theorem yG3 {G : xAc} {a b : Int} {uE uF uR : AV} (hE : TV0 G uE) (hF : TV0 G uF) (hR : TR G uR) : ∃ G2,L.icall (.func 34 []) [.agg [.int .i64 a,.int .i64 b,uE,uF,uR]] G = some (.tup [],G2) ∧ ∀ (i : Nat) cs,G[i]? = some (.cells false false cs) → cs.any xFw = true → G2[i]? = some (.cells false false cs) := by
 have hE1 := hE.appd [.cells false false [.int .i64 a,.int .i64 b,uE,uF,uR]]
 have hF1 := hF.appd [.cells false false [.int .i64 a,.int .i64 b,uE,uF,uR]]
 have hR1 := hR.app [.cells false false [.int .i64 a,.int .i64 b,uE,uF,uR]]
 have ho : ([AV.int .i64 a,.int .i64 b,uE,uF,uR]).any xFw = true := by
  rw [List.any_eq_true]; exact ⟨uE,by simp,hE.odd⟩
 obtain ⟨G1,e1,e2⟩ := xUk hE1
 obtain ⟨G2,e3,e4⟩ := xUk (hF1.tw e2)
 obtain ⟨G3,e5,e6⟩ := yFh ((hR1.tw e2).tw e4)
 have g1 : G1[G.length]? = some (.cells false false [.int .i64 a,.int .i64 b,uE,uF,uR]) := e2.odd (by simp) ho
 have g2 : G2[G.length]? = some (.cells false false [.int .i64 a,.int .i64 b,uE,uF,uR]) := e4.odd g1 ho
 refine ⟨G3,?_,fun i cs h hc => e6 i cs (e4.odd (e2.odd (xAw h) hc) hc) hc⟩
 rw [yJn,a34]
 rcases TV0.cell hE with rfl | ⟨i1,n1,rfl⟩ <;> rcases TV0.cell hF with rfl | ⟨i2,n2,rfl⟩ <;> rcases TR.cell hR with rfl | ⟨i3,n3,rfl⟩ <;>
 simp (maxSteps := 30000000) (disch := first | assumption | omega | (simp only [WL,AV.isCell,xAa,xAn] <;> omega) | rfl | decide) only [WB,Nat.reduceSub,AV.cells,AV.isCell,↓reduceIte,e1,g1,e3,g2,e5]
end Go.Abs.Det
