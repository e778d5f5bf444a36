/- The reference's truth: a node's rows; the whole. -/
import Derived.Test.YtdheandekcpieaaGreatDoorAbsBun
import Derived.Test.YtdheandekcpieaaGreatDoorAMH
import Derived.Test.YtdheandekcpieaaGreatDoorAMF
namespace Go.Abs.Events
open Go Go.Abs
set_option maxHeartbeats 8000000
set_option linter.unusedSimpArgs false
set_option linter.unusedVariables false
theorem xWG (k : Nat) : xCu [AV.bool false] k = bls (List.replicate k false) := by
 induction k with
 | zero => rfl
 | succ k ih => show [AV.bool false] ++ xCu [AV.bool false] k = _; rw [ih]; rfl
theorem xWH (q : Q) : rl (xAQ q 0) = List.replicate 512 false := by
 unfold rl
 refine List.eq_replicate_iff.2 ⟨by simp,fun b hb => ?_⟩
 obtain ⟨a,_,rfl⟩ := List.mem_map.1 hb
 simp [xAQ]
theorem xWI (d : Nat) (H : Heap) (l : List Bool) : (bls l).flatMap (bor d H) = [] := by
 induction l with
 | nil => rfl
 | cons b l ih =>
  show (AV.bool b :: bls l).flatMap (bor d H) = []
  rw [List.flatMap_cons,ih,xGF]; rfl
theorem yEm {G : Heap} {i k : Nat} {f : Blk → Blk} (h : i ≠ k) : (List.modify G i f)[k]? = G[k]? := by rw [List.getElem?_modify]; simp [h]
theorem xKT (d : Nat) (H : Heap) : ∀ l : List AV,(∀ v ∈ l,∃ z n cs,v = .sl z n cs) → l.mapM (frz d H) = some l
 | [],_ => rfl
 | v :: l,h => by
  obtain ⟨z,n,cs,hv⟩ := h v List.mem_cons_self
  rw [List.mapM_cons,hv,xEl,xKT d H l fun w hw => h w (List.mem_cons_of_mem _ hw)]; rfl
theorem xUp (d : Nat) (H : Heap) : ∀ l : List AV,(∀ v ∈ l,∃ z n cs,v = .sl z n cs) → l.flatMap (bor d H) = []
 | [],_ => rfl
 | v :: l,h => by
  obtain ⟨z,n,cs,hv⟩ := h v List.mem_cons_self
  rw [List.flatMap_cons,hv,xTb,xUp d H l fun w hw => h w (List.mem_cons_of_mem _ hw)]; rfl
theorem xP6 (q : Nat → Q) (T : Nat) : ∀ v ∈ xA8 q T,∃ z n cs,v = AV.sl z n cs := by
 intro v hv
 unfold xA8 at hv
 obtain ⟨t,-,rfl⟩ := List.mem_map.1 hv
 exact ⟨_,_,_,rfl⟩
theorem xUq (V : Nat → Nat → Q) (i T : Nat) : ∀ v ∈ xBU V i T,∃ z n cs,v = AV.sl z n cs := by
 intro v hv
 unfold xBU at hv
 obtain ⟨t,-,rfl⟩ := List.mem_map.1 hv
 exact ⟨_,_,_,rfl⟩
theorem xRa (q : Nat → Q) (t : Nat) : xA8 q t ++ [RW (q t)] = xA8 q (t + 1) := by
 unfold xA8
 rw [List.range_succ,List.map_append]; rfl
theorem xUr (V : Nat → Nat → Q) (i T : Nat) : xBU V i T ++ [yAz (V i) T] = xBU V (i + 1) T := by
 unfold xBU
 rw [List.range_succ,List.map_append]; rfl
section
variable {F : List Nd} {i : Nat} {E : List Ev} {zt : Bool} {s0 s6 : AV}
def xWJ (F : List Nd) (E : List Ev) (G : Heap) (v5 : AV) (i ro : Nat) : Prop := (i = 0 ∧ v5 = .sl true 0 []) ∨ (0 < i ∧ v5 = .own false ro 0 i 1 ∧ G[ro]? = some (.cells false false (xBU (S F E) i E.length)))
def StI (F : List Nd) (E : List Ev) (G : Heap) (v8 : AV) (i t so : Nat) : Prop := (t = 0 ∧ v8 = .sl true 0 []) ∨ (0 < t ∧ v8 = .own false so 0 t 1 ∧ G[so]? = some (.cells false false (xA8 (S F E i) t)))
abbrev yDh (s0 : AV) (zt : Bool) (E : List Ev) (v5 s6 : AV) (nb : Nat) (v8 : AV) (t : Nat) : List AV := xGv s0 (.sl zt E.length (evs E)) v5 s6 (.ptr nb 0) v8 (.int .i64 (t : Nat))
set_option maxRecDepth 100000 in
theorem xWK {G : Heap} {v5 v8 : AV} {nb ro so t : Nat} (hV : ∀ j,j < F.length → Vn j (F.getD j nd0)) (hlen : F.length ≤ 64) (hi : i < F.length) (hT : t < E.length) (hE : E.length ≤ 64)
  (gn : G[nb]? = some (.cells false false (F.getD i nd0).c)) (ho : xWJ F E G v5 i ro) (hs : StI F E G v8 i t so) (h1 : so ≠ nb) (h2 : 0 < i → so ≠ ro) :
  ∃ (G' : Heap) (v8' : AV) (so' : Nat),L.loop xDQ xIj ⟨yDh s0 zt E v5 s6 nb v8 t,G⟩ = L.loop xDQ xIj ⟨yDh s0 zt E v5 s6 nb v8' (t + 1),G'⟩ ∧
   G'[nb]? = some (.cells false false (F.getD i nd0).c) ∧ xWJ F E G' v5 i ro ∧ StI F E G' v8' i (t + 1) so' ∧ so' ≠ nb ∧ (0 < i → so' ≠ ro) := by
 have ln := xA4 gn
 have hTI : ((t : Nat) : Int) < (E.length : Nat) := by omega
 have hrep : xCu [AV.bool false] 512 = bls (rl (xAQ (S F E i t) 0)) := by rw [xWG,xWH]
 have hv := hV i hi
 have hrow : L.loop xA5 xBM ⟨xJM s0 (.sl zt E.length (evs E)) v5 s6 (.ptr nb 0) v8 (.int .i64 (t : Nat)) (.own false G.length 0 512 1) (.int .i64 0),G ++ [.cells false false (bls (rl (xAQ (S F E i t) 0)))]⟩ =
   some (.exit 4,⟨xF7 s0 zt E v5 s6 v8 nb t G.length 512,G ++ [.cells false false (bls (rl (S F E i t)))]⟩) := by
  rcases ho with ⟨h0,hv5⟩ | ⟨h0,hv5,go⟩
  ·have e1 := xU2 (s0 := s0) (zt := zt) (s6 := s6) (s8 := v8) (v5 := v5) (ro := G.length + 1) (rb := G.length) (nb := nb) hV hlen hi hT hE (by omega) (by omega) 512 0 rfl (G ++ [.cells false false (bls (rl (xAQ (S F E i t) 0)))]) (by rw [xAS ln]; exact gn)
    (fun hc => by have := hv.ca hc; omega) (by rw [List.getElem?_append_right (Nat.le_refl _),Nat.sub_self]; rfl)
   rw [List.set_append_right _ _ (Nat.le_refl _),Nat.sub_self] at e1
   exact e1
  ·have lo := xA4 go
   have e1 := xU2 (s0 := s0) (zt := zt) (s6 := s6) (s8 := v8) (v5 := v5) (ro := ro) (rb := G.length) (nb := nb) hV hlen hi hT hE (by omega) (by omega) 512 0 rfl (G ++ [.cells false false (bls (rl (xAQ (S F E i t) 0)))]) (by rw [xAS ln]; exact gn)
    (fun hc => ⟨hv5,by rw [xAS lo]; exact go⟩) (by rw [List.getElem?_append_right (Nat.le_refl _),Nat.sub_self]; rfl)
   rw [List.set_append_right _ _ (Nat.le_refl _),Nat.sub_self] at e1
   exact e1
 have hsucc := xRa (S F E i) t
 have hbl := xAe (rl (S F E i t))
 rw [xA3] at hbl
 have hbt : List.take 512 (bls (rl (S F E i t))) = bls (rl (S F E i t)) := List.take_of_length_le (by omega)
 have hfr := fun d H => xH4 d H (rl (S F E i t))
 have hbo := fun d H => xWI d H (rl (S F E i t))
 unfold RW at hsucc
 rcases hs with ⟨h0,rfl⟩ | ⟨h0,rfl,gs⟩
 ·subst h0
  have hT0 : (0 : Int) < (E.length : Nat) := by omega
  refine ⟨G ++ [.cells true false (bls (rl (S F E i 0))),.cells false false (xA8 (S F E i) 1)],.own false (G.length + 1) 0 1 1,G.length + 1,?_,by rw [xAS ln]; exact gn,?_,.inr ⟨by omega,rfl,by rw [List.getElem?_append_right (by omega)]; simp⟩,by omega,fun hi0 => ?_⟩
  ·have hs1 : [.sl false 512 (bls (rl (S F E i 0)))] = xA8 (S F E i) 1 := hsucc
   have hrow : L.loop xA5 xBM ⟨xJM s0 (.sl zt E.length (evs E)) v5 s6 (.ptr nb 0) (.sl true 0 []) (.int .i64 0) (.own false G.length 0 512 1) (.int .i64 0),G ++ [.cells false false (bls (rl (xAQ (S F E i 0) 0)))]⟩ = _ := hrow
   show L.loop xDQ xIj ⟨xGv s0 (.sl zt E.length (evs E)) v5 s6 (.ptr nb 0) (.sl true 0 []) (.int .i64 0),G⟩ = _
   rw [← hs1]
   generalize bls (rl (S F E i 0)) = R at *
   generalize bls (rl (xAQ (S F E i 0) 0)) = R0 at *
   rw [xTY]
   simp (maxSteps := 30000000) (disch := first|exact D5|fail) only [xMY,WB,hT0,↓reduceIte,Int.reduceToNat,hrep,xCe,hrow,xKB,xBq,hbt,hbo,xAR,hfr,xDJ,AV.cells,AV.isCell,Nat.reduceBEq,xHO]
   rfl
  ·rcases ho with h | ⟨hi0,hv5,go⟩
   ·exact .inl h
   ·exact .inr ⟨hi0,hv5,by rw [xAS (xA4 go)]; exact go⟩
  ·rcases ho with h | ⟨hi0,hv5,go⟩
   ·omega
   ·have := xA4 go; omega
 ·have lso := xA4 gs
  refine ⟨G.set so .dead ++ [.cells true false (bls (rl (S F E i t))),.cells false false (xA8 (S F E i) (t + 1))],.own false (G.length + 1) 0 (t + 1) 1,G.length + 1,?_,by rw [xAS (by simpa using ln),xBH h1]; exact gn,?_,.inr ⟨by omega,rfl,by rw [List.getElem?_append_right (by simp)]; simp⟩,by omega,fun hi0 => ?_⟩
  ·have hrl := xBf (S F E i) t
   have hrt : List.take t (xA8 (S F E i) t) = xA8 (S F E i) t := List.take_of_length_le (by omega)
   generalize xA8 (S F E i) (t + 1) = L2 at *
   generalize xA8 (S F E i) t = L1 at *
   generalize bls (rl (S F E i t)) = R at *
   generalize bls (rl (xAQ (S F E i t) 0)) = R0 at *
   rw [xTY]
   simp (maxSteps := 30000000) (disch := first|exact D5|fail) only [xMY,WB,hTI,↓reduceIte,Int.reduceToNat,hrep,xCe,hrow,xKB,xBq,hbt,hbo,xAR,hfr,xDJ,AV.cells,AV.isCell,xAS,gs,Nat.reduceBEq,xDp,hrt,hsucc,xHO]
  ·rcases ho with h | ⟨hi0,hv5,go⟩
   ·exact .inl h
   ·exact .inr ⟨hi0,hv5,by rw [xAS (by simpa using xA4 go),xBH (h2 hi0)]; exact go⟩
  ·rcases ho with h | ⟨hi0,hv5,go⟩
   ·omega
   ·have := xA4 go; omega
set_option maxRecDepth 100000 in
theorem xZz (hV : ∀ j,j < F.length → Vn j (F.getD j nd0)) (hlen : F.length ≤ 64) (hi : i < F.length) (hE : E.length ≤ 64) {v5 : AV} {nb ro : Nat} : ∀ k t,t + k = E.length → ∀ (G : Heap) (v8 : AV) (so : Nat),
  G[nb]? = some (.cells false false (F.getD i nd0).c) → xWJ F E G v5 i ro → StI F E G v8 i t so → so ≠ nb → (0 < i → so ≠ ro) →
  ∃ (G' : Heap) (v8' : AV) (so' : Nat),L.loop xDQ xIj ⟨yDh s0 zt E v5 s6 nb v8 t,G⟩ = some (.exit 2,⟨yDh s0 zt E v5 s6 nb v8' E.length,G'⟩) ∧ xWJ F E G' v5 i ro ∧ StI F E G' v8' i E.length so' ∧ (0 < i → so' ≠ ro) := by
 intro k
 induction k with
 | zero =>
  intro t ht G v8 so gn ho hs h1 h2
  obtain rfl : t = E.length := by omega
  refine ⟨G,v8,so,?_,ho,hs,h2⟩
  rw [xTY]
  simp (maxSteps := 30000000) (disch := first|exact D5|fail) only [xMY,WB,↓reduceIte,xHO]
 | succ k ih =>
  intro t ht G v8 so gn ho hs h1 h2
  obtain ⟨G1,v1,so1,e1,gn1,ho1,hs1,q1,q2⟩ := xWK (s0 := s0) (zt := zt) (s6 := s6) hV hlen hi (show t < E.length by omega) hE gn ho hs h1 h2
  obtain ⟨G2,v2,so2,e2,r1,r2,r3⟩ := ih (t + 1) (by omega) G1 v1 so1 gn1 ho1 hs1 q1 q2
  exact ⟨G2,v2,so2,e1.trans e2,r1,r2,r3⟩
end
section
variable {F : List Nd} {i : Nat} {E : List Ev} {zt zf : Bool}
abbrev yDi (zf : Bool) (F : List Nd) (zt : Bool) (E : List Ev) (v5 : AV) (i : Nat) : List AV := xHQ (.sl zf F.length (nds F)) (.sl zt E.length (evs E)) v5 (.int .i64 (i : Nat))
set_option maxRecDepth 100000 in
theorem xWL {G : Heap} {v5 : AV} {ro : Nat} (hV : ∀ j,j < F.length → Vn j (F.getD j nd0)) (hlen : F.length ≤ 64) (hi : i < F.length) (hE : E.length ≤ 64) (ho : xWJ F E G v5 i ro) :
  ∃ (G' : Heap) (v5' : AV) (ro' : Nat),L.loop xEq xKF ⟨yDi zf F zt E v5 i,G⟩ = L.loop xEq xKF ⟨yDi zf F zt E v5' (i + 1),G'⟩ ∧ xWJ F E G' v5' (i + 1) ro' := by
 have hiI : ((i : Nat) : Int) < (F.length : Nat) := by omega
 have ho1 : xWJ F E (G ++ [.cells false false (F.getD i nd0).c]) v5 i ro := by
  rcases ho with h | ⟨hi0,hv5,go⟩
  ·exact .inl h
  ·exact .inr ⟨hi0,hv5,by rw [xAS (xA4 go)]; exact go⟩
 obtain ⟨G1,v8,so,e1,ho2,hs2,hne⟩ := xZz (s0 := .sl zf F.length (nds F)) (zt := zt) (s6 := .int .i64 (i : Nat)) hV hlen hi hE (nb := G.length) E.length 0 (by omega) (G ++ [.cells false false (F.getD i nd0).c]) (.sl true 0 []) (G.length + 1 + (ro + 1))
  (by rw [List.getElem?_append_right (Nat.le_refl _),Nat.sub_self]; rfl) ho1 (.inl ⟨rfl,rfl⟩) (by omega) (fun _ => by omega)
 have e1' : L.loop xDQ xIj ⟨xGv (.sl zf F.length (nds F)) (.sl zt E.length (evs E)) v5 (.int .i64 (i : Nat)) (.ptr G.length 0) (.sl true 0 []) (.int .i64 0),G ++ [.cells false false (F.getD i nd0).c]⟩ = _ := e1
 generalize hn : F.getD i nd0 = n at *
 have hnv : xA2 n.z n.args = .sl n.z n.args.length (xAB n.args) := rfl
 have hsucc := xUr (S F E) i E.length
 have hof := fun d H => xKT d H (xBU (S F E) i E.length) (xUq _ _ _)
 have hol := xB2 (S F E) i E.length
 have hot : List.take i (xBU (S F E) i E.length) = xBU (S F E) i E.length := List.take_of_length_le (by omega)
 unfold Nd.c at e1'
 rw [hnv] at e1'
 rcases hs2 with ⟨h0,rfl⟩ | ⟨h0,rfl,gs⟩
 ·have hnod : yAz (S F E i) E.length = .sl true 0 [] := by unfold yAz; rw [h0]; rfl
  rw [hnod] at hsucc
  rcases ho2 with ⟨hi0,rfl⟩ | ⟨hi0,rfl,go⟩
  ·subst hi0
   have hs1 : [.sl true 0 []] = xBU (S F E) 1 E.length := hsucc
   refine ⟨G1 ++ [.cells false false (xBU (S F E) 1 E.length)],.own false G1.length 0 1 1,G1.length,?_,.inr ⟨by omega,rfl,by rw [List.getElem?_append_right (Nat.le_refl _),Nat.sub_self]; rfl⟩⟩
   have hiI : (0 : Int) < (F.length : Nat) := by omega
   have hn : F.getD 0 nd0 = n := hn
   have hat := xAs hi
   rw [hn,Nat.zero_mul,List.drop_zero] at hat
   unfold Nd.c at hat
   rw [hnv] at hat
   have e1' : L.loop xDQ xIj ⟨xGv (.sl zf F.length (nds F)) (.sl zt E.length (evs E)) (.sl true 0 []) (.int .i64 0) (.ptr G.length 0) (.sl true 0 []) (.int .i64 0),_⟩ = _ := e1'
   show L.loop xEq xKF ⟨xHQ (.sl zf F.length (nds F)) (.sl zt E.length (evs E)) (.sl true 0 []) (.int .i64 0),G⟩ = _
   rw [← hs1]
   rw [xMZ]
   simp (maxSteps := 30000000) (disch := first|exact D5|fail) only [xHP,WB,hiI,↓reduceIte,Nat.reduceMul,hat,AV.cells,AV.isCell,Nat.reduceAdd,xBq,xBG,xHO,e1',Nat.reduceBEq,xJN]
   rfl
  ·have lo := xA4 go
   refine ⟨G1.set ro .dead ++ [.cells false false (xBU (S F E) (i + 1) E.length)],.own false G1.length 0 (i + 1) 1,G1.length,?_,.inr ⟨by omega,rfl,by rw [List.getElem?_append_right (by simp),List.length_set,Nat.sub_self]; rfl⟩⟩
   generalize xBU (S F E) (i + 1) E.length = L2 at *
   generalize xBU (S F E) i E.length = L1 at *
   rw [xMZ]
   simp (maxSteps := 30000000) (disch := first|exact D5|fail) only [xHP,WB,hiI,↓reduceIte,xAs,Nd.c,hn,hnv,AV.cells,AV.isCell,Nat.reduceAdd,xBq,xBG,xHO,e1',go,Nat.reduceBEq,hot,hsucc,xJN]
 ·have lso := xA4 gs
  have hz : (E.length == 0) = false := by rw [beq_eq_false_iff_ne]; omega
  have hnod : yAz (S F E i) E.length = .sl false E.length (xA8 (S F E i) E.length) := by unfold yAz; rw [hz]
  rw [hnod] at hsucc
  have hrl := xBf (S F E i) E.length
  have hrt : List.take E.length (xA8 (S F E i) E.length) = xA8 (S F E i) E.length := List.take_of_length_le (by omega)
  have hfr := fun d H => xKT d H (xA8 (S F E i) E.length) (xP6 _ _)
  have hbo := fun d H => xUp d H (xA8 (S F E i) E.length) (xP6 _ _)
  rcases ho2 with ⟨hi0,rfl⟩ | ⟨hi0,rfl,go⟩
  ·subst hi0
   have hs1 : [.sl false E.length (xA8 (S F E 0) E.length)] = xBU (S F E) 1 E.length := hsucc
   refine ⟨List.modify G1 so xDJ ++ [.cells false false (xBU (S F E) 1 E.length)],.own false G1.length 0 1 1,G1.length,?_,.inr ⟨by omega,rfl,by rw [List.getElem?_append_right (by simp),List.length_modify,Nat.sub_self]; rfl⟩⟩
   have hiI : (0 : Int) < (F.length : Nat) := by omega
   have hn : F.getD 0 nd0 = n := hn
   have hat := xAs hi
   rw [hn,Nat.zero_mul,List.drop_zero] at hat
   unfold Nd.c at hat
   rw [hnv] at hat
   have e1' : L.loop xDQ xIj ⟨xGv (.sl zf F.length (nds F)) (.sl zt E.length (evs E)) (.sl true 0 []) (.int .i64 0) (.ptr G.length 0) (.sl true 0 []) (.int .i64 0),_⟩ = _ := e1'
   show L.loop xEq xKF ⟨xHQ (.sl zf F.length (nds F)) (.sl zt E.length (evs E)) (.sl true 0 []) (.int .i64 0),G⟩ = _
   rw [← hs1]
   generalize xA8 (S F E 0) E.length = L0 at *
   rw [xMZ]
   simp (maxSteps := 30000000) (disch := first|exact D5|fail) only [xHP,WB,hiI,↓reduceIte,Nat.reduceMul,hat,AV.cells,AV.isCell,Nat.reduceAdd,xBq,xBG,xHO,e1',xKB,gs,hrt,hbo,xAR,hfr,Nat.reduceBEq,List.length_modify,xJN]
   rfl
  ·have lo := xA4 go
   have hne := hne hi0
   have go' : (List.modify G1 so xDJ)[ro]? = some (.cells false false (xBU (S F E) i E.length)) := by rw [yEm hne]; exact go
   refine ⟨(List.modify G1 so xDJ).set ro .dead ++ [.cells false false (xBU (S F E) (i + 1) E.length)],.own false G1.length 0 (i + 1) 1,G1.length,?_,.inr ⟨by omega,rfl,by rw [List.getElem?_append_right (by simp),List.length_set,List.length_modify,Nat.sub_self]; rfl⟩⟩
   generalize xBU (S F E) (i + 1) E.length = L2 at *
   generalize xBU (S F E) i E.length = L1 at *
   generalize xA8 (S F E i) E.length = L0 at *
   rw [xMZ]
   simp (maxSteps := 30000000) (disch := first|exact D5|fail) only [xHP,WB,hiI,↓reduceIte,xAs,Nd.c,hn,hnv,AV.cells,AV.isCell,Nat.reduceAdd,xBq,xBG,xHO,e1',xKB,gs,hrt,hbo,xAR,hfr,go',Nat.reduceBEq,List.length_modify,hot,hsucc,xJN]
set_option maxRecDepth 100000 in
theorem xZA (hV : ∀ j,j < F.length → Vn j (F.getD j nd0)) (hlen : F.length ≤ 64) (hE : E.length ≤ 64) : ∀ k i,i + k = F.length → ∀ (G : Heap) (v5 : AV) (ro : Nat),xWJ F E G v5 i ro →
  ∃ (G' : Heap) (v5' : AV) (ro' : Nat),L.loop xEq xKF ⟨yDi zf F zt E v5 i,G⟩ = some (.exit 0,⟨yDi zf F zt E v5' F.length,G'⟩) ∧ xWJ F E G' v5' F.length ro' := by
 intro k
 induction k with
 | zero =>
  intro i hi G v5 ro ho
  obtain rfl : i = F.length := by omega
  refine ⟨G,v5,ro,?_,ho⟩
  rw [xMZ]
  simp (maxSteps := 30000000) (disch := first|exact D5|fail) only [xHP,WB,↓reduceIte,xJN]
 | succ k ih =>
  intro i hi G v5 ro ho
  obtain ⟨G1,v1,ro1,e1,ho1⟩ := xWL (zf := zf) (zt := zt) hV hlen (show i < F.length by omega) hE ho
  obtain ⟨G2,v2,ro2,e2,r1⟩ := ih (i + 1) (by omega) G1 v1 ro1 ho1
  exact ⟨G2,v2,ro2,e1.trans e2,r1⟩
set_option maxRecDepth 100000 in
theorem xZB (hV : ∀ j,j < F.length → Vn j (F.getD j nd0)) (h0 : 0 < F.length) (hlen : F.length ≤ 64) (hE : E.length ≤ 64) : L.pcall 38 [.sl zf F.length (nds F),.sl zt E.length (evs E)] = some (.sl false F.length (xBU (S F E) F.length E.length)) := by
 obtain ⟨G1,v1,ro,e1,ho⟩ := xZA (zf := zf) (zt := zt) hV hlen hE F.length 0 (by omega) [] (.sl true 0 []) 0 (.inl ⟨rfl,rfl⟩)
 have e1' : L.loop xEq xKF ⟨xHQ (.sl zf F.length (nds F)) (.sl zt E.length (evs E)) (.sl true 0 []) (.int .i64 0),[]⟩ = _ := e1
 rcases ho with ⟨h,-⟩ | ⟨-,rfl,go⟩
 ·omega
 ·have hof := fun d H => xKT d H (xBU (S F E) F.length E.length) (xUq _ _ _)
  have hol := xB2 (S F E) F.length E.length
  have hot : List.take F.length (xBU (S F E) F.length E.length) = xBU (S F E) F.length E.length := List.take_of_length_le (by omega)
  generalize xBU (S F E) F.length E.length = L1 at *
  rw [yFt,a38,xAa]
  simp (maxSteps := 30000000) (disch := first|exact D5|fail) only [WB,Nat.reduceAdd,Nat.reduceSub,xJN,e1',↓reduceIte,xAR,go,hot,hof]
end
section
variable {e : Ev} {G : Heap} {p : Nat}
theorem yB4 (hl : e.args.length ≤ 2) (gp : G[p]? = some (.cells false false (evC e))) : ∀ k i,i + k = e.args.length → ∃ i' : Nat,
  L.loop xJG xTT ⟨xHM (.ptr p 0) (.bool false) (.int .i64 (i : Nat)),G⟩ =
   some (if wi 0 7 (e.args.drop i) = true then (.exit 0,⟨xHM (.ptr p 0) (.bool false) (.int .i64 (i' : Nat)),G⟩) else (.ret,⟨xHM (.ptr p 0) (.bool false) (.int .i64 (i' : Nat)),G⟩)) := by
 have hev : xA2 e.z e.args = .sl e.z e.args.length (xAB e.args) := rfl
 unfold evC at gp
 rw [hev] at gp
 intro k
 induction k with
 | zero =>
  intro i hi
  obtain rfl : i = e.args.length := by omega
  refine ⟨e.args.length,?_⟩
  rw [if_pos (by rw [List.drop_length]; rfl),xPV]
  simp (maxSteps := 30000000) (disch := first|exact D5|fail) only [xJF,WB,gp,↓reduceIte,xJH]
 | succ k ih =>
  intro i hi'
  have hlt : (i : Int) < (e.args.length : Nat) := by omega
  have hl1 : i < e.args.length := by omega
  obtain ⟨i',ih'⟩ := ih (i + 1) (by omega)
  have em : wi 0 7 (e.args.drop i) = ((decide (0 ≤ e.args.getD i 0) && decide (e.args.getD i 0 ≤ 7)) && wi 0 7 (e.args.drop (i + 1))) := by
   rw [List.drop_eq_getElem_cons hl1,List.getD_eq_getElem?_getD,List.getElem?_eq_getElem hl1]
   rfl
  rw [em]
  generalize hN : e.args.getD i 0 = t at *
  by_cases c1 : t < 0
  ·have c1' : ¬ 0 ≤ t := by omega
   simp only [c1',decide_false,Bool.false_and,Bool.false_eq_true,if_false]
   refine ⟨i,?_⟩
   rw [xPV]
   simp (maxSteps := 30000000) (disch := first|exact D5|fail) only [xJF,WB,gp,hlt,↓reduceIte,W2,hN,c1,xJH]
  have c1' : 0 ≤ t := by omega
  by_cases c2 : 8 ≤ t
  ·have c2' : ¬ t ≤ 7 := by omega
   simp only [c1',c2',decide_true,decide_false,Bool.true_and,Bool.false_and,Bool.false_eq_true,if_false]
   refine ⟨i,?_⟩
   rw [xPV]
   simp (maxSteps := 30000000) (disch := first|exact D5|fail) only [xJF,WB,gp,hlt,↓reduceIte,W2,hN,c1,c2,xJH]
  have c2' : t ≤ 7 := by omega
  simp only [c1',c2',decide_true,Bool.true_and]
  refine ⟨i',?_⟩
  rw [xPV]
  simp (maxSteps := 30000000) (disch := first|exact D5|fail) only [xJF,WB,gp,hlt,↓reduceIte,W2,hN,c1,c2,xJH,ih']
theorem xZC (e : Ev) : L.pcall 37 [.agg (evC e)] = some (.bool (xEN e)) := by
 have hev : xA2 e.z e.args = .sl e.z e.args.length (xAB e.args) := rfl
 have hok : xEN e = ((decide (0 ≤ e.name) && decide (e.name ≤ 7)) && decide (e.args.length ≤ 2) && wi 0 7 e.args) := by
  unfold xEN
  rw [xUw]
 rw [hok]
 by_cases c1 : e.name < 0
 ·have c1' : ¬ 0 ≤ e.name := by omega
  simp only [c1',decide_false,Bool.false_and]
  unfold evC
  rw [hev,yBJ,a37,xAa]
  simp (maxSteps := 30000000) (disch := first|exact D5|fail) only [WB,Nat.reduceSub,AV.cells,AV.isCell,↓reduceIte,c1]
 have c1' : 0 ≤ e.name := by omega
 by_cases c2 : 8 ≤ e.name
 ·have c2' : ¬ e.name ≤ 7 := by omega
  simp only [c2',decide_false,Bool.and_false,Bool.false_and]
  unfold evC
  rw [hev,yBJ,a37,xAa]
  simp (maxSteps := 30000000) (disch := first|exact D5|fail) only [WB,Nat.reduceSub,AV.cells,AV.isCell,↓reduceIte,c1,c2]
 have c2' : e.name ≤ 7 := by omega
 by_cases c3 : e.args.length ≤ 2
 ·have c3I : ¬ (2 : Int) < (e.args.length : Nat) := by omega
  obtain ⟨i',e1⟩ := yB4 (p := 0) (G := [.cells false false (evC e)]) c3 rfl e.args.length 0 (by omega)
  rw [List.drop_zero] at e1
  unfold evC at e1 ⊢
  rw [hev] at e1 ⊢
  have e1' : L.loop xJG xTT ⟨xHM (.ptr 0 0) (.bool false) (.int .i64 0),[.cells false false [.int .i64 e.name,.sl e.z e.args.length (xAB e.args)]]⟩ = _ := e1
  simp only [c1',c2',c3,decide_true,Bool.true_and]
  cases hw : wi 0 7 e.args with
  | true =>
   rw [hw] at e1'
   simp only [if_true] at e1'
   rw [yBJ,a37,xAa]
   simp (maxSteps := 30000000) (disch := first|exact D5|fail) only [WB,Nat.reduceSub,AV.cells,AV.isCell,↓reduceIte,c1,c2,c3I,xJH,e1']
  | false =>
   rw [hw] at e1'
   simp only [Bool.false_eq_true,if_false] at e1'
   rw [yBJ,a37,xAa]
   simp (maxSteps := 30000000) (disch := first|exact D5|fail) only [WB,Nat.reduceSub,AV.cells,AV.isCell,↓reduceIte,c1,c2,c3I,xJH,e1']
 ·have c3I : (2 : Int) < (e.args.length : Nat) := by omega
  simp only [c3,decide_false,Bool.and_false,Bool.false_and]
  unfold evC
  rw [hev,yBJ,a37,xAa]
  simp (maxSteps := 30000000) (disch := first|exact D5|fail) only [WB,Nat.reduceSub,AV.cells,AV.isCell,↓reduceIte,c1,c2,c3I]
end
section
variable {F : List Nd} {E : List Ev} {zt zf : Bool} {G : Heap}
def vS (F : List Nd) (E : List Ev) : List Bool := (List.range E.length).map fun t => S F E (F.length - 1) t 0
theorem xJ3 (F : List Nd) (E : List Ev) : (vS F E).length = E.length := by simp [vS]
theorem xZD (hE : E.length ≤ 1000) {s0 s4 s5 : AV} : ∀ k i,i + k = E.length → ∃ i' : Nat,
  L.loop xJh xTA ⟨xHB s0 (.sl zt E.length (evs E)) s4 s5 (.int .i64 (i : Nat)),G⟩ =
   some (if (E.drop i).all xEN = true then (.exit 0,⟨xHB s0 (.sl zt E.length (evs E)) s4 s5 (.int .i64 (i' : Nat)),G⟩) else (.ret,⟨xHB s0 (.sl zt E.length (evs E)) (.sl true 0 []) (.int .i64 1) (.int .i64 (i' : Nat)),G⟩)) := by
 intro k
 induction k with
 | zero =>
  intro i hi
  obtain rfl : i = E.length := by omega
  refine ⟨E.length,?_⟩
  rw [if_pos (by rw [List.drop_length]; rfl),xTB]
  simp (maxSteps := 30000000) (disch := first|exact D5|fail) only [xMH,WB,↓reduceIte,xJi]
 | succ k ih =>
  intro i hi'
  have hlt : (i : Int) < (E.length : Nat) := by omega
  have hl1 : i < E.length := by omega
  obtain ⟨i',ih'⟩ := ih (i + 1) (by omega)
  have em : (E.drop i).all xEN = (xEN (E.getD i ev0) && (E.drop (i + 1)).all xEN) := by
   rw [List.drop_eq_getElem_cons hl1,List.getD_eq_getElem?_getD,List.getElem?_eq_getElem hl1]
   rfl
  rw [em]
  have h58 := xZC (E.getD i ev0)
  have hat := xDR hl1
  generalize E.getD i ev0 = e at *
  have hev : xA2 e.z e.args = .sl e.z e.args.length (xAB e.args) := rfl
  unfold evC at h58 hat
  rw [hev] at h58 hat
  cases hok : xEN e with
  | true =>
   rw [hok] at h58
   simp only [Bool.true_and]
   refine ⟨i',?_⟩
   rw [xTB]
   simp (maxSteps := 30000000) (disch := first|exact D5|fail) only [xMH,WB,hlt,↓reduceIte,hat,h58,xAA,xAm,xJi,ih']
  | false =>
   rw [hok] at h58
   simp only [Bool.false_and,Bool.false_eq_true,if_false]
   refine ⟨i,?_⟩
   rw [xTB]
   simp (maxSteps := 30000000) (disch := first|exact D5|fail) only [xMH,WB,hlt,↓reduceIte,hat,h58,xAA,xAm,xJi]
def GbI (G : Heap) (v : AV) (l : List Bool) : Prop := (l = [] ∧ v = .sl true 0 []) ∨ ∃ o,v = .own false o 0 l.length 1 ∧ G[o]? = some (.cells false false (bls l)) ∧ l ≠ []
theorem xZE {t : Nat} (h : t < E.length) : (vS F E).take (t + 1) = (vS F E).take t ++ [S F E (F.length - 1) t 0] := by
 rw [List.take_succ_eq_append_getElem (by rw [xJ3]; exact h)]
 simp [vS]
set_option maxRecDepth 100000 in
theorem xZF (h0 : 0 < F.length) (hF : F.length ≤ 64) (hE : E.length ≤ 64) : ∀ k i,i + k = E.length → ∀ (G : Heap) (v : AV),GbI G v ((vS F E).take i) → ∃ (G' : Heap) (v' : AV),
  L.loop xJj xTC ⟨xJk (.sl zf F.length (nds F)) (.sl zt E.length (evs E)) v (.sl false F.length (xBU (S F E) F.length E.length)) (.int .i64 (i : Nat)),G⟩ =
   some (.exit 2,⟨xJk (.sl zf F.length (nds F)) (.sl zt E.length (evs E)) v' (.sl false F.length (xBU (S F E) F.length E.length)) (.int .i64 (E.length : Nat)),G'⟩) ∧ GbI G' v' (vS F E) := by
 have hol := xB2 (S F E) F.length E.length
 intro k
 induction k with
 | zero =>
  intro i hi G v hg
  obtain rfl : i = E.length := by omega
  rw [List.take_of_length_le (by rw [xJ3]; omega)] at hg
  refine ⟨G,v,?_,hg⟩
  rw [xTD]
  simp (maxSteps := 30000000) (disch := first|exact D5|fail) only [xMI,WB,↓reduceIte,xMJ]
 | succ k ih =>
  intro i hi G v hg
  have hl1 : i < E.length := by omega
  have hlt : (i : Int) < (E.length : Nat) := by omega
  have hra := xCw (V := S F E) (i := F.length) (T := E.length) (show F.length - 1 < F.length by omega) (by omega)
  have hta := xBV (q := S F E (F.length - 1)) hl1
  have haa := xDY (S F E (F.length - 1) i) (show 0 < 512 by decide)
  rw [List.drop_zero] at haa
  have hla : (bls (rl (S F E (F.length - 1) i))).length = 512 := by rw [xAe,xA3]
  have hrla := xBf (S F E (F.length - 1)) E.length
  unfold RW at hta
  have hF1 : ((F.length : Nat) : Int) - 1 = ((F.length - 1 : Nat) : Int) := by omega
  have hFI : ((F.length - 1 : Nat) : Int) < (F.length : Nat) := by omega
  have hFn : F.length - 1 < F.length := by omega
  have htk := xZE (F := F) hl1
  have hll : ((vS F E).take i).length = i := by rw [List.length_take,xJ3]; omega
  generalize hb : S F E (F.length - 1) i 0 = b at *
  rcases hg with ⟨ht0,rfl⟩ | ⟨o,rfl,go,hne⟩
  ·obtain ⟨G',v',e1,g1⟩ := ih (i + 1) (by omega) (G ++ [.cells false false [.bool b]]) (.own false G.length 0 1 1)
    (.inr ⟨G.length,by rw [htk,ht0]; rfl,by rw [htk,ht0,List.getElem?_append_right (Nat.le_refl _),Nat.sub_self]; rfl,by rw [htk]; exact List.append_ne_nil_of_right_ne_nil _ (List.cons_ne_nil _ _)⟩)
   refine ⟨G',v',?_,g1⟩
   clear ih htk ht0 hll
   generalize bls (rl (S F E (F.length - 1) i)) = RA at *
   generalize xA8 (S F E (F.length - 1)) E.length = TA at *
   generalize xBU (S F E) F.length E.length = OUT at *
   rw [xTD]
   simp (maxSteps := 30000000) (disch := first|exact D5|fail) only [xMI,WB,hlt,↓reduceIte,hF1,hra,hta,haa,AV.cells,AV.isCell,Nat.reduceBEq,xMJ,e1]
  ·have lo := xA4 go
   rw [hll]
   obtain ⟨G',v',e1,g1⟩ := ih (i + 1) (by omega) (G.set o .dead ++ [.cells false false (bls ((vS F E).take i) ++ [.bool b])]) (.own false G.length 0 (i + 1) 1)
    (.inr ⟨G.length,by rw [htk,List.length_append,hll]; rfl,by rw [htk,List.getElem?_append_right (by simp),List.length_set,Nat.sub_self]; simp [bls],by rw [htk]; exact List.append_ne_nil_of_right_ne_nil _ (List.cons_ne_nil _ _)⟩)
   refine ⟨G',v',?_,g1⟩
   have hbl := xAe ((vS F E).take i)
   rw [hll] at hbl
   have hbt : List.take i (bls ((vS F E).take i)) = bls ((vS F E).take i) := List.take_of_length_le (by omega)
   clear ih htk
   generalize bls ((vS F E).take i) = L1 at *
   generalize bls (rl (S F E (F.length - 1) i)) = RA at *
   generalize xA8 (S F E (F.length - 1)) E.length = TA at *
   generalize xBU (S F E) F.length E.length = OUT at *
   rw [xTD]
   simp (maxSteps := 30000000) (disch := first|exact D5|fail) only [xMI,WB,hlt,↓reduceIte,hF1,hra,hta,haa,AV.cells,AV.isCell,go,Nat.reduceBEq,hbt,xMJ,e1]
theorem yB5 (hc : chk F = 0) (hE : E.length ≤ 64) : L.pcall 13 [.sl zf F.length (nds F),.sl zt E.length (evs E)] =
  some (if E.all xEN = true then .tup [.sl E.isEmpty E.length (bls (vS F E)),.int .i64 0] else .tup [.sl true 0 [],.int .i64 1]) := by
 obtain ⟨h0,hlen,hV⟩ := xIk hc
 have h20 := xKV zf F (by omega)
 rw [hc] at h20
 have h20 : L.pcall 8 [.sl zf F.length (nds F)] = some (.int .i64 0) := h20
 have hEI : ¬ (64 : Int) < (E.length : Nat) := by omega
 have h59 := xZB (zf := zf) (zt := zt) hV h0 hlen hE
 obtain ⟨i',e1⟩ := xZD (E := E) (zt := zt) (G := []) (s0 := .sl zf F.length (nds F)) (s4 := .sl true 0 []) (s5 := .int .i64 0) (by omega) E.length 0 (by omega)
 rw [List.drop_zero] at e1
 have e1' : L.loop xJh xTA ⟨xHB (.sl zf F.length (nds F)) (.sl zt E.length (evs E)) (.sl true 0 []) (.int .i64 0) (.int .i64 0),[]⟩ = _ := e1
 cases ha : E.all xEN with
 | false =>
  rw [ha] at e1'
  simp only [Bool.false_eq_true,if_false] at e1' ⊢
  rw [yDe,a13,xAa]
  simp (disch := omega) only [WB,Nat.reduceAdd,Nat.reduceSub,h20,xAA,xAm,↓reduceIte,hEI,xJi,e1']
 | true =>
  rw [ha] at e1'
  simp only [if_true] at e1' ⊢
  obtain ⟨G',v',e2,g2⟩ := xZF (zf := zf) (zt := zt) h0 hlen hE E.length 0 (by omega) [] (.sl true 0 []) (.inl ⟨rfl,rfl⟩)
  have e2' : L.loop xJj xTC ⟨xJk (.sl zf F.length (nds F)) (.sl zt E.length (evs E)) (.sl true 0 []) (.sl false F.length (xBU (S F E) F.length E.length)) (.int .i64 0),[]⟩ = _ := e2
  have hvl := xJ3 F E
  rcases g2 with ⟨h,rfl⟩ | ⟨o,rfl,go,hne⟩
  ·have hE0 : E.length = 0 := by rw [← hvl,h]; rfl
   have hem : E.isEmpty = true := by
    cases E with
    | nil => rfl
    | cons _ _ => simp at hE0
   have hR : AV.sl E.isEmpty E.length (bls (vS F E)) = .sl true 0 [] := by rw [hem,hE0,h]; rfl
   rw [hR]
   generalize xBU (S F E) F.length E.length = OUT at *
   rw [yDe,a13,xAa]
   simp (disch := omega) only [WB,Nat.reduceAdd,Nat.reduceSub,h20,xAA,xAm,↓reduceIte,hEI,xJi,e1',h59,xMJ,e2']
  ·have hbl := xAe (vS F E)
   rw [hvl] at hbl
   have hbt : List.take E.length (bls (vS F E)) = bls (vS F E) := List.take_of_length_le (by omega)
   have hfr := fun d H => xH4 d H (vS F E)
   have hem : E.isEmpty = false := by
    cases E with
    | nil => exact absurd (List.eq_nil_of_length_eq_zero (by rw [hvl]; rfl)) hne
    | cons _ _ => rfl
   rw [hem]
   rw [hvl] at e2'
   generalize bls (vS F E) = L1 at *
   generalize xBU (S F E) F.length E.length = OUT at *
   rw [yDe,a13,xAa]
   simp (disch := omega) only [WB,Nat.reduceAdd,Nat.reduceSub,h20,xAA,xAm,↓reduceIte,hEI,xJi,e1',h59,xMJ,e2',xAR,go,hbt,hfr]
end
end Go.Abs.Events
