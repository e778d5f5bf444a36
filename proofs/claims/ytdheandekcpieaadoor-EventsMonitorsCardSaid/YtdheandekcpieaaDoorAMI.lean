/- The reference's truth: a node's rows; the whole. -/
import Derived.Test.YtdheandekcpieaaDoorAbsBun
import Derived.Test.YtdheandekcpieaaDoorAMH
import Derived.Test.YtdheandekcpieaaDoorAMF
import Derived.Test.YtdheandekcpieaaDoorAMG
namespace Go.Abs.Events
open Go Go.Abs
set_option maxHeartbeats 8000000
set_option linter.unusedSimpArgs false
set_option linter.unusedVariables false
theorem xX2 (k : Nat) : xCp [AV.bool false] k = bls (List.replicate k false) := by
 induction k with
 | zero => rfl
 | succ k ih => show [AV.bool false] ++ xCp [AV.bool false] k = _; rw [ih]; rfl
theorem xX3 (q : Q) : rl (xAI q 0) = List.replicate 512 false := by
 unfold rl
 refine List.eq_replicate_iff.2 ⟨by simp,fun b hb => ?_⟩
 obtain ⟨a,_,rfl⟩ := List.mem_map.1 hb
 simp [xAI]
theorem xX4 (d : Nat) (H : Heap) (l : List Bool) : (bls l).flatMap (bor d H) = [] := by
 induction l with
 | nil => rfl
 | cons b l ih =>
  show (AV.bool b :: bls l).flatMap (bor d H) = []
  rw [List.flatMap_cons,ih,xHj]; rfl
theorem yBk {G : Heap} {i k : Nat} {f : Blk → Blk} (h : i ≠ k) : (List.modify G i f)[k]? = G[k]? := by rw [List.getElem?_modify]; simp [h]
theorem xMk (d : Nat) (H : Heap) : ∀ l : List AV,(∀ v ∈ l,∃ z n cs,v = .sl z n cs) → l.mapM (frz d H) = some l
 | [],_ => rfl
 | v :: l,h => by
  obtain ⟨z,n,cs,hv⟩ := h v List.mem_cons_self
  rw [List.mapM_cons,hv,xEi,xMk d H l fun w hw => h w (List.mem_cons_of_mem _ hw)]; rfl
theorem xWk (d : Nat) (H : Heap) : ∀ l : List AV,(∀ v ∈ l,∃ z n cs,v = .sl z n cs) → l.flatMap (bor d H) = []
 | [],_ => rfl
 | v :: l,h => by
  obtain ⟨z,n,cs,hv⟩ := h v List.mem_cons_self
  rw [List.flatMap_cons,hv,xNv,xWk d H l fun w hw => h w (List.mem_cons_of_mem _ hw)]; rfl
theorem xRG (q : Nat → Q) (T : Nat) : ∀ v ∈ xA8 q T,∃ z n cs,v = AV.sl z n cs := by
 intro v hv
 unfold xA8 at hv
 obtain ⟨t,-,rfl⟩ := List.mem_map.1 hv
 exact ⟨_,_,_,rfl⟩
theorem xWl (V : Nat → Nat → Q) (i T : Nat) : ∀ v ∈ xBH V i T,∃ z n cs,v = AV.sl z n cs := by
 intro v hv
 unfold xBH at hv
 obtain ⟨t,-,rfl⟩ := List.mem_map.1 hv
 exact ⟨_,_,_,rfl⟩
theorem xSy (q : Nat → Q) (t : Nat) : xA8 q t ++ [RW (q t)] = xA8 q (t + 1) := by
 unfold xA8
 rw [List.range_succ,List.map_append]; rfl
theorem xWm (V : Nat → Nat → Q) (i T : Nat) : xBH V i T ++ [yBt (V i) T] = xBH V (i + 1) T := by
 unfold xBH
 rw [List.range_succ,List.map_append]; rfl
section
variable {F : List Nd} {i : Nat} {E : List Ev} {zt : Bool} {s0 s6 : AV}
def xX5 (F : List Nd) (E : List Ev) (G : Heap) (v5 : AV) (i ro : Nat) : Prop := (i = 0 ∧ v5 = .sl true 0 []) ∨ (0 < i ∧ v5 = .own false ro 0 i 1 ∧ G[ro]? = some (.cells false false (xBH (S F E) i E.length)))
def StI (F : List Nd) (E : List Ev) (G : Heap) (v8 : AV) (i t so : Nat) : Prop := (t = 0 ∧ v8 = .sl true 0 []) ∨ (0 < t ∧ v8 = .own false so 0 t 1 ∧ G[so]? = some (.cells false false (xA8 (S F E i) t)))
abbrev yDY (s0 : AV) (zt : Bool) (E : List Ev) (v5 s6 : AV) (nb : Nat) (v8 : AV) (t : Nat) : List AV := xG4 s0 (.sl zt E.length (evs E)) v5 s6 (.ptr nb 0) v8 (.int .i64 (t : Nat))
set_option maxRecDepth 100000 in
theorem xX6 {G : Heap} {v5 v8 : AV} {nb ro so t : Nat} (hV : ∀ j,j < F.length → Vn j (F.getD j nd0)) (hlen : F.length ≤ 64) (hi : i < F.length) (hT : t < E.length) (hE : E.length ≤ 64)
  (gn : G[nb]? = some (.cells false false (F.getD i nd0).c)) (ho : xX5 F E G v5 i ro) (hs : StI F E G v8 i t so) (h1 : so ≠ nb) (h2 : 0 < i → so ≠ ro) :
  ∃ (G' : Heap) (v8' : AV) (so' : Nat),L.loop xEj xJo ⟨yDY s0 zt E v5 s6 nb v8 t,G⟩ = L.loop xEj xJo ⟨yDY s0 zt E v5 s6 nb v8' (t + 1),G'⟩ ∧
   G'[nb]? = some (.cells false false (F.getD i nd0).c) ∧ xX5 F E G' v5 i ro ∧ StI F E G' v8' i (t + 1) so' ∧ so' ≠ nb ∧ (0 < i → so' ≠ ro) := by
 have ln := xAQ gn
 have hTI : ((t : Nat) : Int) < (E.length : Nat) := by omega
 have hrep : xCp [AV.bool false] 512 = bls (rl (xAI (S F E i t) 0)) := by rw [xX2,xX3]
 have hv := hV i hi
 have hrow : L.loop xA6 xBY ⟨xK2 s0 (.sl zt E.length (evs E)) v5 s6 (.ptr nb 0) v8 (.int .i64 (t : Nat)) (.own false G.length 0 512 1) (.int .i64 0),G ++ [.cells false false (bls (rl (xAI (S F E i t) 0)))]⟩ =
   some (.exit 4,⟨xGF s0 zt E v5 s6 v8 nb t G.length 512,G ++ [.cells false false (bls (rl (S F E i t)))]⟩) := by
  rcases ho with ⟨h0,hv5⟩ | ⟨h0,hv5,go⟩
  ·have e1 := xWr (s0 := s0) (zt := zt) (s6 := s6) (s8 := v8) (v5 := v5) (ro := G.length + 1) (rb := G.length) (nb := nb) hV hlen hi hT hE (by omega) (by omega) 512 0 rfl (G ++ [.cells false false (bls (rl (xAI (S F E i t) 0)))]) (by rw [xAC ln]; exact gn)
    (fun hc => by have := hv.ca hc; omega) (by rw [List.getElem?_append_right (Nat.le_refl _),Nat.sub_self]; rfl)
   rw [List.set_append_right _ _ (Nat.le_refl _),Nat.sub_self] at e1
   exact e1
  ·have lo := xAQ go
   have e1 := xWr (s0 := s0) (zt := zt) (s6 := s6) (s8 := v8) (v5 := v5) (ro := ro) (rb := G.length) (nb := nb) hV hlen hi hT hE (by omega) (by omega) 512 0 rfl (G ++ [.cells false false (bls (rl (xAI (S F E i t) 0)))]) (by rw [xAC ln]; exact gn)
    (fun hc => ⟨hv5,by rw [xAC lo]; exact go⟩) (by rw [List.getElem?_append_right (Nat.le_refl _),Nat.sub_self]; rfl)
   rw [List.set_append_right _ _ (Nat.le_refl _),Nat.sub_self] at e1
   exact e1
 have hsucc := xSy (S F E i) t
 have hbl := xAE (rl (S F E i t))
 rw [xAZ] at hbl
 have hbt : List.take 512 (bls (rl (S F E i t))) = bls (rl (S F E i t)) := List.take_of_length_le (by omega)
 have hfr := fun d H => xMc d H (rl (S F E i t))
 have hbo := fun d H => xX4 d H (rl (S F E i t))
 unfold RW at hsucc
 rcases hs with ⟨h0,rfl⟩ | ⟨h0,rfl,gs⟩
 ·subst h0
  have hT0 : (0 : Int) < (E.length : Nat) := by omega
  refine ⟨G ++ [.cells true false (bls (rl (S F E i 0))),.cells false false (xA8 (S F E i) 1)],.own false (G.length + 1) 0 1 1,G.length + 1,?_,by rw [xAC ln]; exact gn,?_,.inr ⟨by omega,rfl,by rw [List.getElem?_append_right (by omega)]; simp⟩,by omega,fun hi0 => ?_⟩
  ·have hs1 : [.sl false 512 (bls (rl (S F E i 0)))] = xA8 (S F E i) 1 := hsucc
   have hrow : L.loop xA6 xBY ⟨xK2 s0 (.sl zt E.length (evs E)) v5 s6 (.ptr nb 0) (.sl true 0 []) (.int .i64 0) (.own false G.length 0 512 1) (.int .i64 0),G ++ [.cells false false (bls (rl (xAI (S F E i 0) 0)))]⟩ = _ := hrow
   show L.loop xEj xJo ⟨xG4 s0 (.sl zt E.length (evs E)) v5 s6 (.ptr nb 0) (.sl true 0 []) (.int .i64 0),G⟩ = _
   rw [← hs1]
   generalize bls (rl (S F E i 0)) = R at *
   generalize bls (rl (xAI (S F E i 0) 0)) = R0 at *
   rw [xVc]
   simp (maxSteps := 30000000) (disch := first|exact D6|fail) only [xN4,WB,hT0,↓reduceIte,Int.reduceToNat,hrep,xCr,hrow,xCN,xBl,hbt,hbo,xAU,hfr,xBM,AV.cells,AV.isCell,Nat.reduceBEq,xII]
   rfl
  ·rcases ho with h | ⟨hi0,hv5,go⟩
   ·exact .inl h
   ·exact .inr ⟨hi0,hv5,by rw [xAC (xAQ go)]; exact go⟩
  ·rcases ho with h | ⟨hi0,hv5,go⟩
   ·omega
   ·have := xAQ go; omega
 ·have lso := xAQ gs
  refine ⟨G.set so .dead ++ [.cells true false (bls (rl (S F E i t))),.cells false false (xA8 (S F E i) (t + 1))],.own false (G.length + 1) 0 (t + 1) 1,G.length + 1,?_,by rw [xAC (by simpa using ln),xBG h1]; exact gn,?_,.inr ⟨by omega,rfl,by rw [List.getElem?_append_right (by simp)]; simp⟩,by omega,fun hi0 => ?_⟩
  ·have hrl := xBg (S F E i) t
   have hrt : List.take t (xA8 (S F E i) t) = xA8 (S F E i) t := List.take_of_length_le (by omega)
   generalize xA8 (S F E i) (t + 1) = L2 at *
   generalize xA8 (S F E i) t = L1 at *
   generalize bls (rl (S F E i t)) = R at *
   generalize bls (rl (xAI (S F E i t) 0)) = R0 at *
   rw [xVc]
   simp (maxSteps := 30000000) (disch := first|exact D6|fail) only [xN4,WB,hTI,↓reduceIte,Int.reduceToNat,hrep,xCr,hrow,xCN,xBl,hbt,hbo,xAU,hfr,xBM,AV.cells,AV.isCell,xAC,gs,Nat.reduceBEq,xDG,hrt,hsucc,xII]
  ·rcases ho with h | ⟨hi0,hv5,go⟩
   ·exact .inl h
   ·exact .inr ⟨hi0,hv5,by rw [xAC (by simpa using xAQ go),xBG (h2 hi0)]; exact go⟩
  ·rcases ho with h | ⟨hi0,hv5,go⟩
   ·omega
   ·have := xAQ go; omega
set_option maxRecDepth 100000 in
theorem yBl (hV : ∀ j,j < F.length → Vn j (F.getD j nd0)) (hlen : F.length ≤ 64) (hi : i < F.length) (hE : E.length ≤ 64) {v5 : AV} {nb ro : Nat} : ∀ k t,t + k = E.length → ∀ (G : Heap) (v8 : AV) (so : Nat),
  G[nb]? = some (.cells false false (F.getD i nd0).c) → xX5 F E G v5 i ro → StI F E G v8 i t so → so ≠ nb → (0 < i → so ≠ ro) →
  ∃ (G' : Heap) (v8' : AV) (so' : Nat),L.loop xEj xJo ⟨yDY s0 zt E v5 s6 nb v8 t,G⟩ = some (.exit 2,⟨yDY s0 zt E v5 s6 nb v8' E.length,G'⟩) ∧ xX5 F E G' v5 i ro ∧ StI F E G' v8' i E.length so' ∧ (0 < i → so' ≠ ro) := by
 intro k
 induction k with
 | zero =>
  intro t ht G v8 so gn ho hs h1 h2
  obtain rfl : t = E.length := by omega
  refine ⟨G,v8,so,?_,ho,hs,h2⟩
  rw [xVc]
  simp (maxSteps := 30000000) (disch := first|exact D6|fail) only [xN4,WB,↓reduceIte,xII]
 | succ k ih =>
  intro t ht G v8 so gn ho hs h1 h2
  obtain ⟨G1,v1,so1,e1,gn1,ho1,hs1,q1,q2⟩ := xX6 (s0 := s0) (zt := zt) (s6 := s6) hV hlen hi (show t < E.length by omega) hE gn ho hs h1 h2
  obtain ⟨G2,v2,so2,e2,r1,r2,r3⟩ := ih (t + 1) (by omega) G1 v1 so1 gn1 ho1 hs1 q1 q2
  exact ⟨G2,v2,so2,e1.trans e2,r1,r2,r3⟩
end
section
variable {F : List Nd} {i : Nat} {E : List Ev} {zt zf : Bool}
abbrev yDZ (zf : Bool) (F : List Nd) (zt : Bool) (E : List Ev) (v5 : AV) (i : Nat) : List AV := xIK (.sl zf F.length (nds F)) (.sl zt E.length (evs E)) v5 (.int .i64 (i : Nat))
set_option maxRecDepth 100000 in
theorem xX7 {G : Heap} {v5 : AV} {ro : Nat} (hV : ∀ j,j < F.length → Vn j (F.getD j nd0)) (hlen : F.length ≤ 64) (hi : i < F.length) (hE : E.length ≤ 64) (ho : xX5 F E G v5 i ro) :
  ∃ (G' : Heap) (v5' : AV) (ro' : Nat),L.loop xEP xLQ ⟨yDZ zf F zt E v5 i,G⟩ = L.loop xEP xLQ ⟨yDZ zf F zt E v5' (i + 1),G'⟩ ∧ xX5 F E G' v5' (i + 1) ro' := by
 have hiI : ((i : Nat) : Int) < (F.length : Nat) := by omega
 have ho1 : xX5 F E (G ++ [.cells false false (F.getD i nd0).c]) v5 i ro := by
  rcases ho with h | ⟨hi0,hv5,go⟩
  ·exact .inl h
  ·exact .inr ⟨hi0,hv5,by rw [xAC (xAQ go)]; exact go⟩
 obtain ⟨G1,v8,so,e1,ho2,hs2,hne⟩ := yBl (s0 := .sl zf F.length (nds F)) (zt := zt) (s6 := .int .i64 (i : Nat)) hV hlen hi hE (nb := G.length) E.length 0 (by omega) (G ++ [.cells false false (F.getD i nd0).c]) (.sl true 0 []) (G.length + 1 + (ro + 1))
  (by rw [List.getElem?_append_right (Nat.le_refl _),Nat.sub_self]; rfl) ho1 (.inl ⟨rfl,rfl⟩) (by omega) (fun _ => by omega)
 have e1' : L.loop xEj xJo ⟨xG4 (.sl zf F.length (nds F)) (.sl zt E.length (evs E)) v5 (.int .i64 (i : Nat)) (.ptr G.length 0) (.sl true 0 []) (.int .i64 0),G ++ [.cells false false (F.getD i nd0).c]⟩ = _ := e1
 generalize hn : F.getD i nd0 = n at *
 have hnv : xA7 n.z n.args = .sl n.z n.args.length (xAv n.args) := rfl
 have hsucc := xWm (S F E) i E.length
 have hof := fun d H => xMk d H (xBH (S F E) i E.length) (xWl _ _ _)
 have hol := xB8 (S F E) i E.length
 have hot : List.take i (xBH (S F E) i E.length) = xBH (S F E) i E.length := List.take_of_length_le (by omega)
 unfold Nd.c at e1'
 rw [hnv] at e1'
 rcases hs2 with ⟨h0,rfl⟩ | ⟨h0,rfl,gs⟩
 ·have hnod : yBt (S F E i) E.length = .sl true 0 [] := by unfold yBt; rw [h0]; rfl
  rw [hnod] at hsucc
  rcases ho2 with ⟨hi0,rfl⟩ | ⟨hi0,rfl,go⟩
  ·subst hi0
   have hs1 : [.sl true 0 []] = xBH (S F E) 1 E.length := hsucc
   refine ⟨G1 ++ [.cells false false (xBH (S F E) 1 E.length)],.own false G1.length 0 1 1,G1.length,?_,.inr ⟨by omega,rfl,by rw [List.getElem?_append_right (Nat.le_refl _),Nat.sub_self]; rfl⟩⟩
   have hiI : (0 : Int) < (F.length : Nat) := by omega
   have hn : F.getD 0 nd0 = n := hn
   have hat := xAw hi
   rw [hn,Nat.zero_mul,List.drop_zero] at hat
   unfold Nd.c at hat
   rw [hnv] at hat
   have e1' : L.loop xEj xJo ⟨xG4 (.sl zf F.length (nds F)) (.sl zt E.length (evs E)) (.sl true 0 []) (.int .i64 0) (.ptr G.length 0) (.sl true 0 []) (.int .i64 0),_⟩ = _ := e1'
   show L.loop xEP xLQ ⟨xIK (.sl zf F.length (nds F)) (.sl zt E.length (evs E)) (.sl true 0 []) (.int .i64 0),G⟩ = _
   rw [← hs1]
   rw [xN5]
   simp (maxSteps := 30000000) (disch := first|exact D6|fail) only [xIJ,WB,hiI,↓reduceIte,Nat.reduceMul,hat,AV.cells,AV.isCell,Nat.reduceAdd,xBl,xBP,xII,e1',Nat.reduceBEq,xK3]
   rfl
  ·have lo := xAQ go
   refine ⟨G1.set ro .dead ++ [.cells false false (xBH (S F E) (i + 1) E.length)],.own false G1.length 0 (i + 1) 1,G1.length,?_,.inr ⟨by omega,rfl,by rw [List.getElem?_append_right (by simp),List.length_set,Nat.sub_self]; rfl⟩⟩
   generalize xBH (S F E) (i + 1) E.length = L2 at *
   generalize xBH (S F E) i E.length = L1 at *
   rw [xN5]
   simp (maxSteps := 30000000) (disch := first|exact D6|fail) only [xIJ,WB,hiI,↓reduceIte,xAw,Nd.c,hn,hnv,AV.cells,AV.isCell,Nat.reduceAdd,xBl,xBP,xII,e1',go,Nat.reduceBEq,hot,hsucc,xK3]
 ·have lso := xAQ gs
  have hz : (E.length == 0) = false := by rw [beq_eq_false_iff_ne]; omega
  have hnod : yBt (S F E i) E.length = .sl false E.length (xA8 (S F E i) E.length) := by unfold yBt; rw [hz]
  rw [hnod] at hsucc
  have hrl := xBg (S F E i) E.length
  have hrt : List.take E.length (xA8 (S F E i) E.length) = xA8 (S F E i) E.length := List.take_of_length_le (by omega)
  have hfr := fun d H => xMk d H (xA8 (S F E i) E.length) (xRG _ _)
  have hbo := fun d H => xWk d H (xA8 (S F E i) E.length) (xRG _ _)
  rcases ho2 with ⟨hi0,rfl⟩ | ⟨hi0,rfl,go⟩
  ·subst hi0
   have hs1 : [.sl false E.length (xA8 (S F E 0) E.length)] = xBH (S F E) 1 E.length := hsucc
   refine ⟨List.modify G1 so xBM ++ [.cells false false (xBH (S F E) 1 E.length)],.own false G1.length 0 1 1,G1.length,?_,.inr ⟨by omega,rfl,by rw [List.getElem?_append_right (by simp),List.length_modify,Nat.sub_self]; rfl⟩⟩
   have hiI : (0 : Int) < (F.length : Nat) := by omega
   have hn : F.getD 0 nd0 = n := hn
   have hat := xAw hi
   rw [hn,Nat.zero_mul,List.drop_zero] at hat
   unfold Nd.c at hat
   rw [hnv] at hat
   have e1' : L.loop xEj xJo ⟨xG4 (.sl zf F.length (nds F)) (.sl zt E.length (evs E)) (.sl true 0 []) (.int .i64 0) (.ptr G.length 0) (.sl true 0 []) (.int .i64 0),_⟩ = _ := e1'
   show L.loop xEP xLQ ⟨xIK (.sl zf F.length (nds F)) (.sl zt E.length (evs E)) (.sl true 0 []) (.int .i64 0),G⟩ = _
   rw [← hs1]
   generalize xA8 (S F E 0) E.length = L0 at *
   rw [xN5]
   simp (maxSteps := 30000000) (disch := first|exact D6|fail) only [xIJ,WB,hiI,↓reduceIte,Nat.reduceMul,hat,AV.cells,AV.isCell,Nat.reduceAdd,xBl,xBP,xII,e1',xCN,gs,hrt,hbo,xAU,hfr,Nat.reduceBEq,List.length_modify,xK3]
   rfl
  ·have lo := xAQ go
   have hne := hne hi0
   have go' : (List.modify G1 so xBM)[ro]? = some (.cells false false (xBH (S F E) i E.length)) := by rw [yBk hne]; exact go
   refine ⟨(List.modify G1 so xBM).set ro .dead ++ [.cells false false (xBH (S F E) (i + 1) E.length)],.own false G1.length 0 (i + 1) 1,G1.length,?_,.inr ⟨by omega,rfl,by rw [List.getElem?_append_right (by simp),List.length_set,List.length_modify,Nat.sub_self]; rfl⟩⟩
   generalize xBH (S F E) (i + 1) E.length = L2 at *
   generalize xBH (S F E) i E.length = L1 at *
   generalize xA8 (S F E i) E.length = L0 at *
   rw [xN5]
   simp (maxSteps := 30000000) (disch := first|exact D6|fail) only [xIJ,WB,hiI,↓reduceIte,xAw,Nd.c,hn,hnv,AV.cells,AV.isCell,Nat.reduceAdd,xBl,xBP,xII,e1',xCN,gs,hrt,hbo,xAU,hfr,go',Nat.reduceBEq,List.length_modify,hot,hsucc,xK3]
set_option maxRecDepth 100000 in
theorem yBm (hV : ∀ j,j < F.length → Vn j (F.getD j nd0)) (hlen : F.length ≤ 64) (hE : E.length ≤ 64) : ∀ k i,i + k = F.length → ∀ (G : Heap) (v5 : AV) (ro : Nat),xX5 F E G v5 i ro →
  ∃ (G' : Heap) (v5' : AV) (ro' : Nat),L.loop xEP xLQ ⟨yDZ zf F zt E v5 i,G⟩ = some (.exit 0,⟨yDZ zf F zt E v5' F.length,G'⟩) ∧ xX5 F E G' v5' F.length ro' := by
 intro k
 induction k with
 | zero =>
  intro i hi G v5 ro ho
  obtain rfl : i = F.length := by omega
  refine ⟨G,v5,ro,?_,ho⟩
  rw [xN5]
  simp (maxSteps := 30000000) (disch := first|exact D6|fail) only [xIJ,WB,↓reduceIte,xK3]
 | succ k ih =>
  intro i hi G v5 ro ho
  obtain ⟨G1,v1,ro1,e1,ho1⟩ := xX7 (zf := zf) (zt := zt) hV hlen (show i < F.length by omega) hE ho
  obtain ⟨G2,v2,ro2,e2,r1⟩ := ih (i + 1) (by omega) G1 v1 ro1 ho1
  exact ⟨G2,v2,ro2,e1.trans e2,r1⟩
set_option maxRecDepth 100000 in
theorem xWn (hV : ∀ j,j < F.length → Vn j (F.getD j nd0)) (h0 : 0 < F.length) (hlen : F.length ≤ 64) (hE : E.length ≤ 64) : L.pcall 59 [.sl zf F.length (nds F),.sl zt E.length (evs E)] = some (.sl false F.length (xBH (S F E) F.length E.length)) := by
 obtain ⟨G1,v1,ro,e1,ho⟩ := yBm (zf := zf) (zt := zt) hV hlen hE F.length 0 (by omega) [] (.sl true 0 []) 0 (.inl ⟨rfl,rfl⟩)
 have e1' : L.loop xEP xLQ ⟨xIK (.sl zf F.length (nds F)) (.sl zt E.length (evs E)) (.sl true 0 []) (.int .i64 0),[]⟩ = _ := e1
 rcases ho with ⟨h,-⟩ | ⟨-,rfl,go⟩
 ·omega
 ·have hof := fun d H => xMk d H (xBH (S F E) F.length E.length) (xWl _ _ _)
  have hol := xB8 (S F E) F.length E.length
  have hot : List.take F.length (xBH (S F E) F.length E.length) = xBH (S F E) F.length E.length := List.take_of_length_le (by omega)
  generalize xBH (S F E) F.length E.length = L1 at *
  rw [yF8,a59,xAb]
  simp (maxSteps := 30000000) (disch := first|exact D6|fail) only [WB,Nat.reduceAdd,Nat.reduceSub,xK3,e1',↓reduceIte,xAU,go,hot,hof]
end
section
variable {e : Ev} {G : Heap} {p : Nat}
theorem yDB (hl : e.args.length ≤ 2) (gp : G[p]? = some (.cells false false (evC e))) : ∀ k i,i + k = e.args.length → ∃ i' : Nat,
  L.loop xKW xU7 ⟨xIG (.ptr p 0) (.bool false) (.int .i64 (i : Nat)),G⟩ =
   some (if wi 0 7 (e.args.drop i) = true then (.exit 0,⟨xIG (.ptr p 0) (.bool false) (.int .i64 (i' : Nat)),G⟩) else (.ret,⟨xIG (.ptr p 0) (.bool false) (.int .i64 (i' : Nat)),G⟩)) := by
 have hev : xA7 e.z e.args = .sl e.z e.args.length (xAv e.args) := rfl
 unfold evC at gp
 rw [hev] at gp
 intro k
 induction k with
 | zero =>
  intro i hi
  obtain rfl : i = e.args.length := by omega
  refine ⟨e.args.length,?_⟩
  rw [if_pos (by rw [List.drop_length]; rfl),xQ8]
  simp (maxSteps := 30000000) (disch := first|exact D6|fail) only [xKV,WB,gp,↓reduceIte,xKX]
 | succ k ih =>
  intro i hi'
  have hlt : (i : Int) < (e.args.length : Nat) := by omega
  have hl1 : i < e.args.length := by omega
  obtain ⟨i',ih'⟩ := ih (i + 1) (by omega)
  have em : wi 0 7 (e.args.drop i) = ((decide (0 ≤ e.args.getD i 0) && decide (e.args.getD i 0 ≤ 7)) && wi 0 7 (e.args.drop (i + 1))) := by
   rw [List.drop_eq_getElem_cons hl1,List.getD_eq_getElem?_getD,List.getElem?_eq_getElem hl1]
   rfl
  rw [em]
  generalize hN : e.args.getD i 0 = t at *
  by_cases c1 : t < 0
  ·have c1' : ¬ 0 ≤ t := by omega
   simp only [c1',decide_false,Bool.false_and,Bool.false_eq_true,if_false]
   refine ⟨i,?_⟩
   rw [xQ8]
   simp (maxSteps := 30000000) (disch := first|exact D6|fail) only [xKV,WB,gp,hlt,↓reduceIte,W2,hN,c1,xKX]
  have c1' : 0 ≤ t := by omega
  by_cases c2 : 8 ≤ t
  ·have c2' : ¬ t ≤ 7 := by omega
   simp only [c1',c2',decide_true,decide_false,Bool.true_and,Bool.false_and,Bool.false_eq_true,if_false]
   refine ⟨i,?_⟩
   rw [xQ8]
   simp (maxSteps := 30000000) (disch := first|exact D6|fail) only [xKV,WB,gp,hlt,↓reduceIte,W2,hN,c1,c2,xKX]
  have c2' : t ≤ 7 := by omega
  simp only [c1',c2',decide_true,Bool.true_and]
  refine ⟨i',?_⟩
  rw [xQ8]
  simp (maxSteps := 30000000) (disch := first|exact D6|fail) only [xKV,WB,gp,hlt,↓reduceIte,W2,hN,c1,c2,xKX,ih']
theorem yBn (e : Ev) : L.pcall 58 [.agg (evC e)] = some (.bool (xEn e)) := by
 have hev : xA7 e.z e.args = .sl e.z e.args.length (xAv e.args) := rfl
 have hok : xEn e = ((decide (0 ≤ e.name) && decide (e.name ≤ 7)) && decide (e.args.length ≤ 2) && wi 0 7 e.args) := by
  unfold xEn
  rw [xVA]
 rw [hok]
 by_cases c1 : e.name < 0
 ·have c1' : ¬ 0 ≤ e.name := by omega
  simp only [c1',decide_false,Bool.false_and]
  unfold evC
  rw [hev,yCo,a58,xAb]
  simp (maxSteps := 30000000) (disch := first|exact D6|fail) only [WB,Nat.reduceSub,AV.cells,AV.isCell,↓reduceIte,c1]
 have c1' : 0 ≤ e.name := by omega
 by_cases c2 : 8 ≤ e.name
 ·have c2' : ¬ e.name ≤ 7 := by omega
  simp only [c2',decide_false,Bool.and_false,Bool.false_and]
  unfold evC
  rw [hev,yCo,a58,xAb]
  simp (maxSteps := 30000000) (disch := first|exact D6|fail) only [WB,Nat.reduceSub,AV.cells,AV.isCell,↓reduceIte,c1,c2]
 have c2' : e.name ≤ 7 := by omega
 by_cases c3 : e.args.length ≤ 2
 ·have c3I : ¬ (2 : Int) < (e.args.length : Nat) := by omega
  obtain ⟨i',e1⟩ := yDB (p := 0) (G := [.cells false false (evC e)]) c3 rfl e.args.length 0 (by omega)
  rw [List.drop_zero] at e1
  unfold evC at e1 ⊢
  rw [hev] at e1 ⊢
  have e1' : L.loop xKW xU7 ⟨xIG (.ptr 0 0) (.bool false) (.int .i64 0),[.cells false false [.int .i64 e.name,.sl e.z e.args.length (xAv e.args)]]⟩ = _ := e1
  simp only [c1',c2',c3,decide_true,Bool.true_and]
  cases hw : wi 0 7 e.args with
  | true =>
   rw [hw] at e1'
   simp only [if_true] at e1'
   rw [yCo,a58,xAb]
   simp (maxSteps := 30000000) (disch := first|exact D6|fail) only [WB,Nat.reduceSub,AV.cells,AV.isCell,↓reduceIte,c1,c2,c3I,xKX,e1']
  | false =>
   rw [hw] at e1'
   simp only [Bool.false_eq_true,if_false] at e1'
   rw [yCo,a58,xAb]
   simp (maxSteps := 30000000) (disch := first|exact D6|fail) only [WB,Nat.reduceSub,AV.cells,AV.isCell,↓reduceIte,c1,c2,c3I,xKX,e1']
 ·have c3I : (2 : Int) < (e.args.length : Nat) := by omega
  simp only [c3,decide_false,Bool.and_false,Bool.false_and]
  unfold evC
  rw [hev,yCo,a58,xAb]
  simp (maxSteps := 30000000) (disch := first|exact D6|fail) only [WB,Nat.reduceSub,AV.cells,AV.isCell,↓reduceIte,c1,c2,c3I]
end
section
variable {F : List Nd} {E : List Ev} {zt zf : Bool} {G : Heap}
def vS (F : List Nd) (E : List Ev) : List Bool := (List.range E.length).map fun t => S F E (F.length - 1) t 0
theorem xOy (F : List Nd) (E : List Ev) : (vS F E).length = E.length := by simp [vS]
theorem yBo (hE : E.length ≤ 1000) {s0 s4 s5 : AV} : ∀ k i,i + k = E.length → ∃ i' : Nat,
  L.loop xKu xUO ⟨xIz s0 (.sl zt E.length (evs E)) s4 s5 (.int .i64 (i : Nat)),G⟩ =
   some (if (E.drop i).all xEn = true then (.exit 0,⟨xIz s0 (.sl zt E.length (evs E)) s4 s5 (.int .i64 (i' : Nat)),G⟩) else (.ret,⟨xIz s0 (.sl zt E.length (evs E)) (.sl true 0 []) (.int .i64 1) (.int .i64 (i' : Nat)),G⟩)) := by
 intro k
 induction k with
 | zero =>
  intro i hi
  obtain rfl : i = E.length := by omega
  refine ⟨E.length,?_⟩
  rw [if_pos (by rw [List.drop_length]; rfl),xUP]
  simp (maxSteps := 30000000) (disch := first|exact D6|fail) only [xNQ,WB,↓reduceIte,xKv]
 | succ k ih =>
  intro i hi'
  have hlt : (i : Int) < (E.length : Nat) := by omega
  have hl1 : i < E.length := by omega
  obtain ⟨i',ih'⟩ := ih (i + 1) (by omega)
  have em : (E.drop i).all xEn = (xEn (E.getD i ev0) && (E.drop (i + 1)).all xEn) := by
   rw [List.drop_eq_getElem_cons hl1,List.getD_eq_getElem?_getD,List.getElem?_eq_getElem hl1]
   rfl
  rw [em]
  have h58 := yBn (E.getD i ev0)
  have hat := xLd hl1
  generalize E.getD i ev0 = e at *
  have hev : xA7 e.z e.args = .sl e.z e.args.length (xAv e.args) := rfl
  unfold evC at h58 hat
  rw [hev] at h58 hat
  cases hok : xEn e with
  | true =>
   rw [hok] at h58
   simp only [Bool.true_and]
   refine ⟨i',?_⟩
   rw [xUP]
   simp (maxSteps := 30000000) (disch := first|exact D6|fail) only [xNQ,WB,hlt,↓reduceIte,hat,h58,xAD,xAn,xKv,ih']
  | false =>
   rw [hok] at h58
   simp only [Bool.false_and,Bool.false_eq_true,if_false]
   refine ⟨i,?_⟩
   rw [xUP]
   simp (maxSteps := 30000000) (disch := first|exact D6|fail) only [xNQ,WB,hlt,↓reduceIte,hat,h58,xAD,xAn,xKv]
def GbI (G : Heap) (v : AV) (l : List Bool) : Prop := (l = [] ∧ v = .sl true 0 []) ∨ ∃ o,v = .own false o 0 l.length 1 ∧ G[o]? = some (.cells false false (bls l)) ∧ l ≠ []
theorem yBp {t : Nat} (h : t < E.length) : (vS F E).take (t + 1) = (vS F E).take t ++ [S F E (F.length - 1) t 0] := by
 rw [List.take_succ_eq_append_getElem (by rw [xOy]; exact h)]
 simp [vS]
set_option maxRecDepth 100000 in
theorem yBq (h0 : 0 < F.length) (hF : F.length ≤ 64) (hE : E.length ≤ 64) : ∀ k i,i + k = E.length → ∀ (G : Heap) (v : AV),GbI G v ((vS F E).take i) → ∃ (G' : Heap) (v' : AV),
  L.loop xKw xUQ ⟨xKx (.sl zf F.length (nds F)) (.sl zt E.length (evs E)) v (.sl false F.length (xBH (S F E) F.length E.length)) (.int .i64 (i : Nat)),G⟩ =
   some (.exit 2,⟨xKx (.sl zf F.length (nds F)) (.sl zt E.length (evs E)) v' (.sl false F.length (xBH (S F E) F.length E.length)) (.int .i64 (E.length : Nat)),G'⟩) ∧ GbI G' v' (vS F E) := by
 have hol := xB8 (S F E) F.length E.length
 intro k
 induction k with
 | zero =>
  intro i hi G v hg
  obtain rfl : i = E.length := by omega
  rw [List.take_of_length_le (by rw [xOy]; omega)] at hg
  refine ⟨G,v,?_,hg⟩
  rw [xUR]
  simp (maxSteps := 30000000) (disch := first|exact D6|fail) only [xNR,WB,↓reduceIte,xNS]
 | succ k ih =>
  intro i hi G v hg
  have hl1 : i < E.length := by omega
  have hlt : (i : Int) < (E.length : Nat) := by omega
  have hra := xCn (V := S F E) (i := F.length) (T := E.length) (show F.length - 1 < F.length by omega) (by omega)
  have hta := xBR (q := S F E (F.length - 1)) hl1
  have haa := xEl (S F E (F.length - 1) i) (show 0 < 512 by decide)
  rw [List.drop_zero] at haa
  have hla : (bls (rl (S F E (F.length - 1) i))).length = 512 := by rw [xAE,xAZ]
  have hrla := xBg (S F E (F.length - 1)) E.length
  unfold RW at hta
  have hF1 : ((F.length : Nat) : Int) - 1 = ((F.length - 1 : Nat) : Int) := by omega
  have hFI : ((F.length - 1 : Nat) : Int) < (F.length : Nat) := by omega
  have hFn : F.length - 1 < F.length := by omega
  have htk := yBp (F := F) hl1
  have hll : ((vS F E).take i).length = i := by rw [List.length_take,xOy]; omega
  generalize hb : S F E (F.length - 1) i 0 = b at *
  rcases hg with ⟨ht0,rfl⟩ | ⟨o,rfl,go,hne⟩
  ·obtain ⟨G',v',e1,g1⟩ := ih (i + 1) (by omega) (G ++ [.cells false false [.bool b]]) (.own false G.length 0 1 1)
    (.inr ⟨G.length,by rw [htk,ht0]; rfl,by rw [htk,ht0,List.getElem?_append_right (Nat.le_refl _),Nat.sub_self]; rfl,by rw [htk]; exact List.append_ne_nil_of_right_ne_nil _ (List.cons_ne_nil _ _)⟩)
   refine ⟨G',v',?_,g1⟩
   clear ih htk ht0 hll
   generalize bls (rl (S F E (F.length - 1) i)) = RA at *
   generalize xA8 (S F E (F.length - 1)) E.length = TA at *
   generalize xBH (S F E) F.length E.length = OUT at *
   rw [xUR]
   simp (maxSteps := 30000000) (disch := first|exact D6|fail) only [xNR,WB,hlt,↓reduceIte,hF1,hra,hta,haa,AV.cells,AV.isCell,Nat.reduceBEq,xNS,e1]
  ·have lo := xAQ go
   rw [hll]
   obtain ⟨G',v',e1,g1⟩ := ih (i + 1) (by omega) (G.set o .dead ++ [.cells false false (bls ((vS F E).take i) ++ [.bool b])]) (.own false G.length 0 (i + 1) 1)
    (.inr ⟨G.length,by rw [htk,List.length_append,hll]; rfl,by rw [htk,List.getElem?_append_right (by simp),List.length_set,Nat.sub_self]; simp [bls],by rw [htk]; exact List.append_ne_nil_of_right_ne_nil _ (List.cons_ne_nil _ _)⟩)
   refine ⟨G',v',?_,g1⟩
   have hbl := xAE ((vS F E).take i)
   rw [hll] at hbl
   have hbt : List.take i (bls ((vS F E).take i)) = bls ((vS F E).take i) := List.take_of_length_le (by omega)
   clear ih htk
   generalize bls ((vS F E).take i) = L1 at *
   generalize bls (rl (S F E (F.length - 1) i)) = RA at *
   generalize xA8 (S F E (F.length - 1)) E.length = TA at *
   generalize xBH (S F E) F.length E.length = OUT at *
   rw [xUR]
   simp (maxSteps := 30000000) (disch := first|exact D6|fail) only [xNR,WB,hlt,↓reduceIte,hF1,hra,hta,haa,AV.cells,AV.isCell,go,Nat.reduceBEq,hbt,xNS,e1]
theorem xZg (hc : chk F = 0) (hE : E.length ≤ 64) : L.pcall 23 [.sl zf F.length (nds F),.sl zt E.length (evs E)] =
  some (if E.all xEn = true then .tup [.sl E.isEmpty E.length (bls (vS F E)),.int .i64 0] else .tup [.sl true 0 [],.int .i64 1]) := by
 obtain ⟨h0,hlen,hV⟩ := xL9 hc
 have h20 := xVB zf F (by omega)
 rw [hc] at h20
 have h20 : L.pcall 20 [.sl zf F.length (nds F)] = some (.int .i64 0) := h20
 have hEI : ¬ (64 : Int) < (E.length : Nat) := by omega
 have h59 := xWn (zf := zf) (zt := zt) hV h0 hlen hE
 obtain ⟨i',e1⟩ := yBo (E := E) (zt := zt) (G := []) (s0 := .sl zf F.length (nds F)) (s4 := .sl true 0 []) (s5 := .int .i64 0) (by omega) E.length 0 (by omega)
 rw [List.drop_zero] at e1
 have e1' : L.loop xKu xUO ⟨xIz (.sl zf F.length (nds F)) (.sl zt E.length (evs E)) (.sl true 0 []) (.int .i64 0) (.int .i64 0),[]⟩ = _ := e1
 cases ha : E.all xEn with
 | false =>
  rw [ha] at e1'
  simp only [Bool.false_eq_true,if_false] at e1' ⊢
  rw [yEB,a23,xAb]
  simp (maxSteps := 30000000) (disch := first|exact D6|fail) only [WB,Nat.reduceAdd,Nat.reduceSub,h20,xAD,xAn,↓reduceIte,hEI,xKv,e1']
 | true =>
  rw [ha] at e1'
  simp only [if_true] at e1' ⊢
  obtain ⟨G',v',e2,g2⟩ := yBq (zf := zf) (zt := zt) h0 hlen hE E.length 0 (by omega) [] (.sl true 0 []) (.inl ⟨rfl,rfl⟩)
  have e2' : L.loop xKw xUQ ⟨xKx (.sl zf F.length (nds F)) (.sl zt E.length (evs E)) (.sl true 0 []) (.sl false F.length (xBH (S F E) F.length E.length)) (.int .i64 0),[]⟩ = _ := e2
  have hvl := xOy F E
  rcases g2 with ⟨h,rfl⟩ | ⟨o,rfl,go,hne⟩
  ·have hE0 : E.length = 0 := by rw [← hvl,h]; rfl
   have hem : E.isEmpty = true := by
    cases E with
    | nil => rfl
    | cons _ _ => simp at hE0
   have hR : AV.sl E.isEmpty E.length (bls (vS F E)) = .sl true 0 [] := by rw [hem,hE0,h]; rfl
   rw [hR]
   generalize xBH (S F E) F.length E.length = OUT at *
   rw [yEB,a23,xAb]
   simp (maxSteps := 30000000) (disch := first|exact D6|fail) only [WB,Nat.reduceAdd,Nat.reduceSub,h20,xAD,xAn,↓reduceIte,hEI,xKv,e1',h59,xNS,e2']
  ·have hbl := xAE (vS F E)
   rw [hvl] at hbl
   have hbt : List.take E.length (bls (vS F E)) = bls (vS F E) := List.take_of_length_le (by omega)
   have hfr := fun d H => xMc d H (vS F E)
   have hem : E.isEmpty = false := by
    cases E with
    | nil => exact absurd (List.eq_nil_of_length_eq_zero (by rw [hvl]; rfl)) hne
    | cons _ _ => rfl
   rw [hem]
   rw [hvl] at e2'
   generalize bls (vS F E) = L1 at *
   generalize xBH (S F E) F.length E.length = OUT at *
   rw [yEB,a23,xAb]
   simp (maxSteps := 30000000) (disch := first|exact D6|fail) only [WB,Nat.reduceAdd,Nat.reduceSub,h20,xAD,xAn,↓reduceIte,hEI,xKv,e1',h59,xNS,e2',xAU,go,hbt,hfr]
end
theorem yBr {l : List Nd} {i : Nat} (h : i < l.length) : List.take 1 (List.drop (i * 6 + 4) (nds l)) = [.int .i64 (l.getD i nd0).a] := by
 have h1 := xAw h
 have h2 := congrArg (fun l => List.take 1 (List.drop 4 l)) h1
 simp only [List.drop_take,List.drop_drop,List.take_take] at h2
 rw [show min 1 (6 - 4) = 1 from rfl] at h2
 rw [h2]; rfl
section
variable {V : Nat → Nat → Q} {n T j t : Nat} {bb : Nat} {s0 s7 s8 : AV}
set_option maxRecDepth 100000 in
theorem yBs (hj : j < n) (ht : t < T) (hn : n ≤ 64) (hT : T ≤ 64) : ∀ k i,i + k = 512 → ∀ G : Heap,G[bb]? = some (.cells false false (bs (bsQ (xAI (V j t) i)))) →
  L.loop xIA xSo ⟨xFH s0 (.sl false n (xBH V n T)) (.int .i64 (t : Nat)) s7 s8 (.own false bb 0 64 1) (.int .i64 (j : Nat)) (.int .i64 (i : Nat)),G⟩ =
   some (.exit 2,⟨xFH s0 (.sl false n (xBH V n T)) (.int .i64 (t : Nat)) s7 s8 (.own false bb 0 64 1) (.int .i64 (j : Nat)) (.int .i64 512),G.set bb (.cells false false (bs (bsQ (V j t))))⟩) := by
 have hra := xCn (V := V) (T := T) hj (by omega)
 have hta := xBR (q := V j) ht
 have hol := xB8 V n T
 have hrla := xBg (V j) T
 unfold RW at hta
 generalize V j t = q at *
 intro k
 induction k with
 | zero =>
  intro i hi G go
  obtain rfl : i = 512 := by omega
  have hall : bsQ (xAI q 512) = bsQ q := xMh fun j h => by simp [xAI,h]
  rw [hall] at go
  have hset : G.set bb (.cells false false (bs (bsQ q))) = G := by
   obtain ⟨hk,hx⟩ := List.getElem?_eq_some_iff.1 go
   rw [← hx,List.set_getElem_self]
  rw [hset,xQY]
  simp (maxSteps := 30000000) (disch := first|exact D6|fail) only [xKA,WB,↓reduceIte,xKB]
  try rfl
 | succ k ih =>
  intro i hi G go
  have hlt : i < 512 := by omega
  have hltI : ((i : Nat) : Int) < 512 := by omega
  have h0I : (0 : Int) ≤ ((t : Nat) : Int) := by omega
  have hat := xC6 (l := rl q) (k := i) (by rw [xAZ]; omega)
  rw [yCF q hlt] at hat
  have hrl : (bls (rl q)).length = 512 := by rw [xAE,xAZ]
  have lo := xAQ go
  have hb64 := xDI (xAI q i)
  have hjI : ((j : Nat) : Int) < (n : Nat) := by omega
  have htI : ((t : Nat) : Int) < (T : Nat) := by omega
  have hd : ((i : Nat) : Int).tdiv 8 = ((i / 8 : Nat) : Int) := by rw [Int.tdiv_eq_ediv_of_nonneg (by omega)]; omega
  have hm : ((i : Nat) : Int).tmod 8 = ((i % 8 : Nat) : Int) := by rw [Int.tmod_eq_emod_of_nonneg (by omega)]; omega
  cases hq : q i with
  | false =>
   rw [hq] at hat
   have e1 := ih (i + 1) (by omega) G (by rw [← yAl q hq]; exact go)
   clear ih
   generalize bls (rl q) = RB at *
   generalize xA8 (V j) T = TA at *
   generalize xBH V n T = OUT at *
   rw [xQY]
   simp (maxSteps := 30000000) (disch := first|exact D6|fail) only [xKA,WB,hltI,↓reduceIte,h0I,hra,hta,hat,xKB,e1]
  | true =>
   rw [hq] at hat
   have hs := xXB q hlt hq
   have e1 := ih (i + 1) (by omega) (G.set bb (.cells false false (bs (bsQ (xAI q (i + 1)))))) (xDH lo)
   rw [List.set_set] at e1
   have hby := xWa (xAI q i) (show i / 8 < 64 by omega)
   have hlt2 : byQ (xAI q i) (i / 8) + 2 ^ (i % 8) < 256 := by rw [xVu q hlt hq]; exact xZf _ _
   have h8 : i / 8 < 64 := by omega
   have h8I : ((i / 8 : Nat) : Int) < 64 := by omega
   have hsh : IntKind.u8.wrap (1 * 2 ^ min (i % 8) IntKind.u8.bits) = ((2 ^ (i % 8) : Nat) : Int) := by
    have e : min (i % 8) IntKind.u8.bits = i % 8 := Nat.min_eq_left (by show _ ≤ 8; omega)
    rw [e,Int.one_mul]
    have h2 : 2 ^ (i % 8) < 256 := Nat.lt_of_lt_of_le (Nat.pow_lt_pow_right (by omega) (show i % 8 < 8 by omega)) (Nat.le_refl _)
    have : ((2 : Int) ^ (i % 8)) = ((2 ^ (i % 8) : Nat) : Int) := by simp
    rw [this,IntKind.wrap_u8]
    generalize 2 ^ (i % 8) = pw at *
    omega
   clear ih
   generalize bls (rl q) = RB at *
   generalize xA8 (V j) T = TA at *
   generalize xBH V n T = OUT at *
   generalize bsQ (xAI q (i + 1)) = B2 at *
   generalize hB1 : bsQ (xAI q i) = B1 at *
   generalize byQ (xAI q i) (i / 8) = y at *
   generalize 2 ^ (i % 8) = pw at *
   have hadd : IntKind.u8.wrap (((y : Nat) : Int) + ((pw : Nat) : Int)) = ((y + pw : Nat) : Int) := by rw [IntKind.wrap_u8]; omega
   rw [xQY]
   simp (maxSteps := 30000000) (disch := first|exact D6|fail) only [xKA,WB,hltI,↓reduceIte,h0I,hra,hta,hat,hd,go,hby,xAl,hm,hsh,AV.cells,hs,xKB,e1]
theorem xX8 {s5 s9 s10 : AV} (G : Heap) : L.loop xIA xSo ⟨xFH s0 s5 (.int .i64 (-1)) s7 s8 s9 s10 (.int .i64 0),G⟩ = some (.exit 2,⟨xFH s0 s5 (.int .i64 (-1)) s7 s8 s9 s10 (.int .i64 0),G⟩) := by
 have hn : ¬ ((0 : Int) ≤ -1) := by omega
 rw [xQY]
 simp (maxSteps := 30000000) (disch := first|exact D6|fail) only [xKA,Int.reduceNeg,WB,Int.reduceLT,↓reduceIte,hn,xKB]
end
section
variable {F : List Nd} {E : List Ev} {zf zt : Bool}
theorem yDC (hV : ∀ j,j < F.length → Vn j (F.getD j nd0)) {i : Nat} (hi : i < F.length) (t : Nat) : W F E i (t + 1) = if (F.getD i nd0).op = 8 then S F E (F.getD i nd0).a.toNat t else S F E i t := by
 unfold W
 rw [xJh]
 split
 ·rfl
 ·rw [yD0 hV hi]; rfl
abbrev yDD (zf : Bool) (F : List Nd) (E : List Ev) (v : AV) (i : Nat) : List AV := xNT (.sl zf F.length (nds F)) (.sl false F.length (xBH (S F E) F.length E.length)) (.int .i64 ((E.length : Nat) - 1)) v (.int .i64 (i : Nat))
set_option maxRecDepth 100000 in
theorem xX9 (hV : ∀ j,j < F.length → Vn j (F.getD j nd0)) (hF : F.length ≤ 64) (hE : E.length ≤ 64) {i : Nat} (hi : i < F.length) {G : Heap} {o : Nat} {st : List Nat} (hst : st.length ≤ 100000) (h0 : 0 < st.length) (go : G[o]? = some (.cells false false (bs st))) :
  ∃ (G' : Heap) (o' : Nat),L.loop xG1 xPh ⟨yDD zf F E (.own false o 0 st.length 1) i,G⟩ =
   L.loop xG1 xPh ⟨yDD zf F E (.own false o' 0 (st ++ (if tmp (F.getD i nd0).op = true then bsQ (W F E i E.length) else [])).length 1) (i + 1),G'⟩ ∧
   G'[o']? = some (.cells false false (bs (st ++ (if tmp (F.getD i nd0).op = true then bsQ (W F E i E.length) else [])))) := by
 have hv := hV i hi
 have hiI : ((i : Nat) : Int) < (F.length : Nat) := by omega
 have h61 := yEZ (F.getD i nd0).op
 have hat1 := yAt hi
 have hat4 := yBr hi
 have lo := xAQ go
 have hWs := fun t => yDC (E := E) hV hi t
 cases ht : tmp (F.getD i nd0).op with
 | false =>
  rw [ht] at h61
  simp only [Bool.false_eq_true,if_false,List.append_nil]
  refine ⟨G,o,?_,go⟩
  generalize (F.getD i nd0).op = op at *
  generalize xBH (S F E) F.length E.length = OUT at *
  rw [xQZ]
  simp (maxSteps := 30000000) (disch := first|exact D6|fail) only [xKC,WB,hiI,↓reduceIte,hat1,h61,xAD,xAn,xNU]
 | true =>
  rw [ht] at h61
  simp only [if_true]
  have h64 : (bsQ (W F E i E.length)).length = 64 := xDI _
  have hrz : xCp [AV.int .u8 0] 64 = bs (List.replicate 64 0) := xPt 64
  have hz0 : bsQ (xAI fQ 0) = List.replicate 64 0 := by rw [← xHo]; exact xMh fun _ _ => by simp [xAI,fQ]
  have hfrom : ∃ j,j < F.length ∧ (if (F.getD i nd0).op = 8 then (F.getD i nd0).a = (j : Nat) else j = i) ∧ ∀ t,W F E i (t + 1) = S F E j t := by
   by_cases c : (F.getD i nd0).op = 8
   ·have hA := xAF (hv.ca (by rw [c]; decide))
    refine ⟨(F.getD i nd0).a.toNat,by omega,by rw [if_pos c]; exact hA.1,fun t => ?_⟩
    rw [hWs,if_pos c]
   ·exact ⟨i,hi,by rw [if_neg c],fun t => by rw [hWs,if_neg c]⟩
  obtain ⟨j,hj,hjf,hWj⟩ := hfrom
  refine ⟨G.set o .dead ++ [.cells false false (bs (bsQ (W F E i E.length))),.cells false false (bs (st ++ bsQ (W F E i E.length)))],G.length + 1,?_,by rw [List.getElem?_append_right (by simp)]; simp⟩
  have hbits : L.loop xIA xSo ⟨xFH (.sl zf F.length (nds F)) (.sl false F.length (xBH (S F E) F.length E.length)) (.int .i64 ((E.length : Nat) - 1)) (.own false o 0 st.length 1) (.int .i64 (i : Nat)) (.own false G.length 0 64 1) (.int .i64 (j : Nat)) (.int .i64 0),G ++ [.cells false false (bs (List.replicate 64 0))]⟩ =
    some (.exit 2,⟨xFH (.sl zf F.length (nds F)) (.sl false F.length (xBH (S F E) F.length E.length)) (.int .i64 ((E.length : Nat) - 1)) (.own false o 0 st.length 1) (.int .i64 (i : Nat)) (.own false G.length 0 64 1) (.int .i64 (j : Nat)) (.int .i64 (if E.length = 0 then 0 else 512)),G ++ [.cells false false (bs (bsQ (W F E i E.length)))]⟩) := by
   by_cases hE0 : E.length = 0
   ·have hW0 : W F E i E.length = fQ := by rw [hE0]; rfl
    rw [hW0,xHo,hE0,if_pos rfl]
    exact xX8 _
   ·have hET : E.length = (E.length - 1) + 1 := by omega
    have hW1 : W F E i E.length = S F E j (E.length - 1) := by rw [hET,hWj]; rfl
    have e1 := yBs (V := S F E) (n := F.length) (T := E.length) (j := j) (t := E.length - 1) (bb := G.length) (s0 := .sl zf F.length (nds F)) (s7 := .own false o 0 st.length 1) (s8 := .int .i64 (i : Nat)) hj (by omega) hF hE 512 0 rfl (G ++ [.cells false false (bs (List.replicate 64 0))])
     (by rw [List.getElem?_append_right (Nat.le_refl _),Nat.sub_self,← hz0]
         have : bsQ (xAI (S F E j (E.length - 1)) 0) = bsQ (xAI fQ 0) := xMh fun _ _ => by simp [xAI]
         rw [this]; rfl)
    rw [List.set_append_right _ _ (Nat.le_refl _),Nat.sub_self] at e1
    rw [hW1,if_neg hE0,show ((E.length : Nat) : Int) - 1 = ((E.length - 1 : Nat) : Int) by omega]
    exact e1
  generalize hWW : bsQ (W F E i E.length) = WBt at *
  have hsl := xBf st
  have hst' : List.take st.length (bs st) = bs st := xL6 st
  have hwl := xBf WBt
  rw [h64] at hwl
  have hwt : List.take 64 (bs WBt) = bs WBt := List.take_of_length_le (by omega)
  have happ : bs st ++ bs WBt = bs (st ++ WBt) := by simp [bs]
  have hlen2 : (st ++ WBt).length = st.length + 64 := by rw [List.length_append,h64]
  rw [hlen2]
  clear hWW hWs hWj
  unfold yDD
  generalize (if E.length = 0 then (0 : Int) else 512) = fin at *
  generalize xBH (S F E) F.length E.length = OUT at *
  generalize bs (st ++ WBt) = L2 at *
  generalize bs WBt = L1 at *
  generalize bs st = L0 at *
  generalize ((E.length : Nat) : Int) - 1 = last at *
  by_cases c : (F.getD i nd0).op = 8
  ·rw [if_pos c] at hjf
   rw [hjf] at hat4
   rw [c] at hat1 h61
   have h61 : L.pcall 61 [.int .u8 8] = _ := h61
   have hat1 : List.take 1 (List.drop (i * 6) (nds F)) = [.int .u8 8] := hat1
   rw [xQZ]
   simp (maxSteps := 30000000) (disch := first|exact D6|fail) only [xKC,WB,hiI,↓reduceIte,hat1,h61,xAD,xAn,Int.reduceToNat,hrz,hat4,xKB,hbits,xBl,hwt,xAC,go,Nat.reduceBEq,xDG,hst',happ,xNU]
  ·rw [if_neg c] at hjf
   subst hjf
   generalize (F.getD j nd0).op = op at *
   have cI : ¬ ((op : Nat) : Int) = 8 := by omega
   rw [xQZ]
   simp (maxSteps := 30000000) (disch := first|exact D6|fail) only [xKC,WB,hiI,↓reduceIte,hat1,h61,xAD,xAn,Int.reduceToNat,hrz,cI,xKB,hbits,xBl,hwt,xAC,go,Nat.reduceBEq,xDG,hst',happ,xNU]
def xAJ (F : List Nd) (E : List Ev) : List (List Nat) := (tlR F 0).map fun i => bsQ (W F E i E.length)
theorem xWo (hV : ∀ j,j < F.length → Vn j (F.getD j nd0)) (hF : F.length ≤ 64) (hE : E.length ≤ 64) : ∀ (rest : List Nd) (i : Nat),F.drop i = rest → i ≤ F.length → ∀ (G : Heap) (o : Nat) (st : List Nat),st.length ≤ 100 + 64 * i → 0 < st.length → G[o]? = some (.cells false false (bs st)) →
  ∃ (G' : Heap) (o' : Nat),L.loop xG1 xPh ⟨yDD zf F E (.own false o 0 st.length 1) i,G⟩ = some (.exit 0,⟨yDD zf F E (.own false o' 0 (st ++ ((tlR rest i).map fun i => bsQ (W F E i E.length)).flatten).length 1) F.length,G'⟩) ∧
   G'[o']? = some (.cells false false (bs (st ++ ((tlR rest i).map fun i => bsQ (W F E i E.length)).flatten)))
 | [],i,h,hi,G,o,st,hst,h0,go => by
  have hle : F.length ≤ i := by
   by_cases c : F.length ≤ i
   ·exact c
   ·rw [List.drop_eq_getElem_cons (by omega)] at h; cases h
  obtain rfl : i = F.length := by omega
  refine ⟨G,o,?_,by simpa [tlR] using go⟩
  simp only [tlR,List.map_nil,List.flatten_nil,List.append_nil]
  generalize xBH (S F E) F.length E.length = OUT at *
  rw [xQZ]
  simp (maxSteps := 30000000) (disch := first|exact D6|fail) only [xKC,WB,↓reduceIte,xNU]
 | n :: r,i,h,hi,G,o,st,hst,h0,go => by
  obtain ⟨h1,h2,h3⟩ := xOz (d := nd0) h
  obtain ⟨G1,o1,e1,g1⟩ := xX9 (zf := zf) hV hF hE h2 (show st.length ≤ 100000 by omega) h0 go
  have hl64 : ∀ q : Q,(bsQ q).length = 64 := fun q => xDI q
  obtain ⟨G2,o2,e2,g2⟩ := xWo hV hF hE r (i + 1) h3 (by omega) G1 o1 _ (by
   rw [List.length_append]
   split
   ·rw [hl64]; omega
   ·simp; omega) (by rw [List.length_append]; omega) g1
  have hfl : st ++ ((tlR (n :: r) i).map fun i => bsQ (W F E i E.length)).flatten = (st ++ (if tmp (F.getD i nd0).op = true then bsQ (W F E i E.length) else [])) ++ ((tlR r (i + 1)).map fun i => bsQ (W F E i E.length)).flatten := by
   rw [tlR,h1]
   split
   ·simp
   ·simp
  rw [hfl]
  exact ⟨G2,o2,e1.trans e2,g2⟩
def stB (F : List Nd) (E : List Ev) : List Nat := min E.length 1 :: (xAJ F E).flatten
theorem xPM (hc : chk F = 0) (hE : E.length ≤ 64) : L.pcall 26 [.sl zf F.length (nds F),.sl zt E.length (evs E)] = some (.sl false (stB F E).length (bs (stB F E))) := by
 obtain ⟨h0,hlen,hV⟩ := xL9 hc
 have h59 := xWn (zf := zf) (zt := zt) hV h0 hlen hE
 obtain ⟨G1,o1,e1,g1⟩ := xWo (zf := zf) (E := E) hV hlen hE F 0 rfl (by omega) [.cells false false (bs [min E.length 1])] 0 [min E.length 1] (by simp) (by simp) rfl
 have hst : [min E.length 1] ++ ((tlR F 0).map fun i => bsQ (W F E i E.length)).flatten = stB F E := rfl
 rw [hst] at e1 g1
 have e1' : L.loop xG1 xPh ⟨xNT (.sl zf F.length (nds F)) (.sl false F.length (xBH (S F E) F.length E.length)) (.int .i64 ((E.length : Nat) - 1)) (.own false 0 0 1 1) (.int .i64 0),[.cells false false [.int .u8 (min E.length 1 : Nat)]]⟩ = _ := e1
 have hmin : min ((E.length : Nat) : Int) 1 = ((min E.length 1 : Nat) : Int) := by omega
 have hm1 : min E.length 1 ≤ 1 := by omega
 have hbl := xBf (stB F E)
 have hbt := xL6 (stB F E)
 have hfr := fun d H => xRe d H (stB F E)
 generalize bs (stB F E) = L1 at *
 generalize (stB F E).length = m at *
 generalize min E.length 1 = m1 at *
 have hw : IntKind.u8.wrap ((m1 : Nat) : Int) = ((m1 : Nat) : Int) := by rw [IntKind.wrap_u8]; omega
 generalize xBH (S F E) F.length E.length = OUT at *
 rw [yFV,a26,xAb]
 simp (maxSteps := 30000000) (disch := first|exact D6|fail) only [WB,Nat.reduceAdd,Nat.reduceSub,h59,xAD,xAn,↓reduceIte,hmin,hw,AV.cells,AV.isCell,xNU,e1',xAU,g1,hbt,hfr]
end
end Go.Abs.Events
