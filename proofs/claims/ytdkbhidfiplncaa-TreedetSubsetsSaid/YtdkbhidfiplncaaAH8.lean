/- TreedetSubsets on the interpreter's values. -/
import Derived.Test.YtdkbhidfiplncaaAMC
import Derived.Test.YtdkbhidfiplncaaAMH
import Derived.Test.YtdkbhidfiplncaaAOV
import Derived.Test.YtdkbhidfiplncaaAMR
import Derived.Test.YtdkbhidfiplncaaAMB
import Derived.Test.YtdkbhidfiplncaaAB14
import Derived.Test.YtdkbhidfiplncaaAK1
namespace Go.Abs.Det
open Go Go.Abs
set_option linter.unusedSimpArgs false
set_option linter.unusedVariables false

theorem xGh {o : List Nat} {s4 : AV} {H : xAv} (hl : o.length < 1099511627776) (ho : ∀ w ∈ o,w < 18446744073709551616) : ∀ d i,i + d = o.length →
    L.loop xIk xPv ⟨xGD (xFK o) (xFK o) s4 (.int .i64 (i : Nat)),H⟩ = some (.exit 0,⟨xGD (xFK o) (xFK o) s4 (.int .i64 (o.length : Nat)),H⟩)
  | 0,i,h => by
    obtain rfl : i = o.length := by omega
    unfold xFK
    rw [xLu]
    simp (maxSteps := 30000000) (disch := first | assumption | omega | (simp only [List.length_cons,List.length_nil,List.length_append,List.length_set,List.length_replicate,List.length_map,List.length_range,List.length_take,List.length_drop,List.all_cons,List.all_nil,AV.isCell,Bool.and_self,Bool.and_true,xAh,xAb,xAe,xAa,xAa,xAJ,List.length_map,xAo] <;> omega) | rfl | decide) only [xIj,xAq,xAf,xAc,xAk,xAz,opv,List.getD_cons_succ,List.getD_cons_zero,xAr,List.set_cons_succ,List.set_cons_zero,xAi,xA3,xA4,xAm,xAB,xAw,Int.lt_irrefl,decide_false,xAg,xAj,xAd,xAp,xAl,Bool.false_eq_true,↓reduceIte,xBm,xA6,xAX,xHz]
  | d + 1,i,h => by
    have hlt : (i : Int) < (o.length : Nat) := by omega
    have hlt' : i < o.length := by omega
    have ih := xGh (s4 := s4) (H := H) hl ho d (i + 1) (by omega)
    have g := xJr hlt'
    have hw := ho _ (xCN (a := (0 : Nat)) hlt')
    have hm := yAk hw hw
    rw [decide_eq_true rfl] at hm
    obtain ⟨zw,nw,cw,hW⟩ : ∃ z m c,xCJ (o.getD i 0) = AV.sl z m c := ⟨_,_,_,rfl⟩
    rw [hW] at g hm
    have hmp : (o.map xCJ).length = o.length := List.length_map ..
    unfold xFK at ih ⊢
    generalize o.map xCJ = S at *
    rw [xLu]
    simp (maxSteps := 30000000) (disch := first | assumption | omega | (simp only [List.length_cons,List.length_nil,List.length_append,List.length_set,List.length_replicate,List.length_map,List.length_range,List.length_take,List.length_drop,List.all_cons,List.all_nil,AV.isCell,Bool.and_self,Bool.and_true,xAh,xAb,xAe,xAa,xAa,xAJ,List.length_map,xAo] <;> omega) | rfl | decide) only [xIj,xAq,xAf,xAc,xAk,xAz,opv,List.getD_cons_succ,List.getD_cons_zero,xAr,List.set_cons_succ,List.set_cons_zero,xAi,xA3,xA4,xAm,xAB,xAw,hlt,decide_true,xAg,xAj,xAd,xAp,xAl,↓reduceIte,xAx,xAs,xBt,List.take_succ_cons,List.take_zero,xAU,xA5,xB4,xBj,xBp,xBd,xBL,xAW,xAY,Int.toNat_natCast,Nat.mul_one,xBE,xAH,xBn,g,xAM,xA2,xBc,List.drop_succ_cons,List.drop_zero,xCf,xBo,xBH,List.map_cons,List.map_nil,xBi,xBP,List.mapM_cons,xB0,List.mapM_nil,Option.pure_def,Option.bind_eq_bind,Option.bind_some,xBh,hm,xBg,xDx,xCq,xGn,xEh,Bool.not_true,Bool.false_eq_true,xAt,xBf,xB6,xCQ,xAy,xHz,ih]
theorem xSb {o : List Nat} (hl : o.length < 1099511627776) (ho : ∀ w ∈ o,w < 18446744073709551616) : L.pcall 39 [xFK o,xFK o] = some (.bool true) := by
  have ih := fun s4 => xGh (s4 := s4) (H := []) hl ho o.length 0 (by omega)
  simp only [Int.natCast_zero] at ih
  unfold xFK at ih ⊢
  generalize o.map xCJ = S at *
  rw [yBG,a39,xBA]
  simp (maxSteps := 30000000) (disch := first | assumption | omega | (simp only [List.length_cons,List.length_nil,List.length_append,List.length_set,List.length_replicate,List.length_map,List.length_range,List.length_take,List.length_drop,List.all_cons,List.all_nil,AV.isCell,Bool.and_self,Bool.and_true,xAh,xAb,xAe,xAa,xAa,xAJ,List.length_map,xAo] <;> omega) | rfl | decide) only [xAT,List.length_cons,List.length_nil,Nat.zero_add,Nat.reduceAdd,Nat.reduceSub,xCF,List.cons_append,List.nil_append,xAq,xAf,xAc,xAk,xAz,opv,xAr,List.set_cons_succ,List.set_cons_zero,xAi,xAg,xAj,xAd,List.getD_cons_zero,xA3,List.getD_cons_succ,xA4,xAm,xAB,xBy,decide_true,Bool.not_true,xAp,xAl,Bool.false_eq_true,↓reduceIte,xAx,xAs,xA7,xHz,ih,xAR,xA0,xAP,xAV,xBk,xAD,xAS,xBP,xCr]
theorem xUd : L.pcall 39 [.sl true 0 [],.sl true 0 []] = some (.bool true) := by
  have ih : ∀ s4,L.loop xIk xPv ⟨xGD (.sl true 0 []) (.sl true 0 []) s4 (.int .i64 0),[]⟩ = some (.exit 0,⟨xGD (.sl true 0 []) (.sl true 0 []) s4 (.int .i64 0),[]⟩) := fun s4 => by
    rw [xLu]
    simp (maxSteps := 30000000) (disch := first | assumption | omega | (simp only [List.length_cons,List.length_nil,List.length_append,List.length_set,List.length_replicate,List.length_map,List.length_range,List.length_take,List.length_drop,List.all_cons,List.all_nil,AV.isCell,Bool.and_self,Bool.and_true,xAh,xAb,xAe,xAa,xAa,xAJ,List.length_map,xAo] <;> omega) | rfl | decide) only [xIj,xAq,xAf,xAc,xAk,xAz,opv,List.getD_cons_succ,List.getD_cons_zero,xAr,List.set_cons_succ,List.set_cons_zero,xAi,xA3,xA4,xC0,xAm,xAB,xAw,Int.lt_irrefl,decide_false,xAg,xAj,xAd,xAp,xAl,Bool.false_eq_true,↓reduceIte,xBm,xA6,xAX,xHz]
  rw [yBG,a39,xBA]
  simp (maxSteps := 30000000) (disch := first | assumption | omega | (simp only [List.length_cons,List.length_nil,List.length_append,List.length_set,List.length_replicate,List.length_map,List.length_range,List.length_take,List.length_drop,List.all_cons,List.all_nil,AV.isCell,Bool.and_self,Bool.and_true,xAh,xAb,xAe,xAa,xAa,xAJ,List.length_map,xAo] <;> omega) | rfl | decide) only [xAT,List.length_cons,List.length_nil,Nat.zero_add,Nat.reduceAdd,Nat.reduceSub,xCF,List.cons_append,List.nil_append,xAq,xAf,xAc,xAk,xAz,opv,xAr,List.set_cons_succ,List.set_cons_zero,xAi,xAg,xAj,xAd,List.getD_cons_zero,xA3,List.getD_cons_succ,xA4,xC0,xAm,xAB,xBy,decide_true,Bool.not_true,xAp,xAl,Bool.false_eq_true,↓reduceIte,xAx,xAs,xA7,xHz,ih,xAR,xA0,xAP,xAV,xBk,xAD,xAS,xBP,xCr]
theorem xXj : L.pcall 29 [zD,zD] = some (.bool true) := by
  have h1 := xJm true true [] (by simp) (fun r hr => by simp at hr)
  have h2 := xKn true true [] (by simp)
  simp only [List.length_nil,List.map_nil,bools] at h1 h2
  rw [yDo,a29,xBA]
  simp (maxSteps := 30000000) (disch := first | assumption | omega | (simp only [List.length_cons,List.length_nil,List.length_append,List.length_set,List.length_replicate,List.length_map,List.length_range,List.length_take,List.length_drop,List.all_cons,List.all_nil,AV.isCell,Bool.and_self,Bool.and_true,xAh,xAb,xAe,xAa,xAa,xAJ,List.length_map,xAo] <;> omega) | rfl | decide) only [xAT,List.length_cons,List.length_nil,Nat.zero_add,Nat.reduceAdd,Nat.reduceSub,xCF,List.cons_append,List.nil_append,xAq,xAf,xAc,xAk,xBv,AV.cells,opv,List.getD_cons_zero,List.all_cons,AV.isCell,List.all_nil,Bool.and_self,↓reduceIte,xAr,List.set_cons_succ,List.set_cons_zero,xAi,List.getD_cons_succ,xAz,xAg,xAj,xAd,xAQ,xAC,Nat.add_zero,xAm,xAH,xA1,List.getElem?_cons_zero,xAu,List.drop_zero,List.take_succ_cons,List.take_zero,xAM,List.getElem?_cons_succ,xAB,xC3,decide_true,xAK,xAA,List.drop_succ_cons,xA9,xAL,xBH,List.map_cons,List.map_nil,xBi,xBP,List.mapM_cons,xB0,List.mapM_nil,Option.pure_def,Option.bind_eq_bind,Option.bind_some,xBh,h1,xBg,xDx,xCq,List.take_nil,h2,xA0,xAP,xAV,xBk,xAD,xAS,xCr]

section
variable {n A : Aut} {bu : Int} {G : xAv}
structure LwI (n A : Aut) (G : xAv) : Prop where
  b0 : G[0]? = some (.cells false false n.cells)
  b1 : G[1]? = some (.cells false false A.cells)
theorem xSc (n : Aut) : n.cells.any xPi = true := by simp [Aut.cells,xPi]
theorem LwI.app (h : LwI n A G) (X : xAv) : LwI n A (G ++ X) := ⟨xBQ h.b0,xBQ h.b1⟩
theorem LwI.tw (h : LwI n A G) {G' : xAv} (ht : Tw G G') : LwI n A G' := ⟨ht.odd h.b0 (xSc n),ht.odd h.b1 (xSc A)⟩

theorem xJd (hsm : L.pcall 36 [n.av] = some A.av) (hsame : L.pcall 30 [A.av,A.av] = some (.bool true)) {e : Int} {B : xAv} (h1 : xDD L 37 [A.av,.int .i64 bu] = some (.tup [zD,.sl true 0 [],.int .i64 e],B)) (h2 : L.pcall 38 [A.av,.int .i64 bu] = some (.tup [zD,.sl true 0 [],.int .i64 e])) (hI : LwI n A G) {i : Int} (hi : i < 2) (h0i : 0 ≤ i) :
    ∃ G',L.loop xIa xS9 ⟨xIb (.int .i64 bu) (.ptr 0 0) (.bool false) (.ptr 1 0) (.int .i64 i),G⟩ = L.loop xIa xS9 ⟨xIb (.int .i64 bu) (.ptr 0 0) (.bool false) (.ptr 1 0) (.int .i64 (i + 1)),G'⟩ ∧ LwI n A G' := by
  have b0 := hI.b0
  have b1 := hI.b1
  have hz := xXj
  have hn := xUd
  obtain ⟨X7,h7⟩ : ∃ X,X = Blk.cells false false [.int .i64 0,.int .i64 0,.sl true 0 [],.sl true 0 []] := ⟨_,rfl⟩
  obtain ⟨Bl,hBl⟩ : ∃ Bl,Bl = B.map (xCU G.length) := ⟨_,rfl⟩
  obtain ⟨G2,o1,o2⟩ := xVQ (G := G ++ (Bl ++ [X7,X7])) (a := 0) (b := 0) (vN := .sl true 0 []) (vF := .sl true 0 []) (.inl rfl) (.inl rfl)
  obtain ⟨G3,o3,o4⟩ := xSR (G := G2 ++ [Blk.cells false false [.int .i64 0,.int .i64 0,.sl true 0 [],.sl true 0 []]]) (v := .sl true 0 []) (.inl rfl)
  refine ⟨G3,?_,(((hI.app _).tw o2).app _).tw o4⟩
  have c0 : ∀ T : xAv,(G ++ T)[0]? = some (.cells false false n.cells) := fun T => xBQ b0
  have c1 : ∀ T : xAv,(G ++ T)[1]? = some (.cells false false A.cells) := fun T => xBQ b1
  have z7 : ∀ T : xAv,(G ++ (Bl ++ (X7 :: T)))[G.length + Bl.length]? = some X7 := fun T => by rw [← List.append_assoc,← List.length_append]; exact xCy _ _
  have z8 : ∀ T : xAv,(G ++ (Bl ++ (X7 :: X7 :: T)))[G.length + (Bl.length + 1)]? = some X7 := fun T => by
    have := xNr (G ++ Bl) (X7 :: X7 :: T) 1
    rw [List.length_append,List.append_assoc,Nat.add_assoc] at this
    exact this
  have xD1 : ∀ (Y : Blk) (T : xAv),(G ++ (Bl ++ (X7 :: T))).set (G.length + Bl.length) Y = G ++ (Bl ++ (Y :: T)) := fun Y T => by
    rw [← List.append_assoc,← List.length_append,List.set_append_right _ _ (Nat.le_refl _),Nat.sub_self,List.set_cons_zero,List.append_assoc]
  have hset2 : ∀ (Y : Blk) (T : xAv),(G ++ (Bl ++ (X7 :: X7 :: T))).set (G.length + (Bl.length + 1)) Y = G ++ (Bl ++ (X7 :: Y :: T)) := fun Y T => by
    rw [← List.append_assoc,← Nat.add_assoc,← List.length_append,List.set_append_right _ _ (by omega),show (G ++ Bl).length + 1 - (G ++ Bl).length = 1 by omega,List.set_cons_succ,List.set_cons_zero,List.append_assoc]
  rw [h7] at z7 z8 xD1 hset2 o1
  have hw : IntKind.i64.wrap (i + 1) = i + 1 := by have : i = 0 ∨ i = 1 := by omega
                                                   rcases this with rfl | rfl <;> rfl
  unfold Aut.av at hsm hsame h1 h2
  rw [xV0]
  simp (maxSteps := 30000000) (disch := first | assumption | omega | (simp only [List.length_cons,List.length_nil,List.length_append,List.length_set,List.length_replicate,List.length_map,List.length_range,List.length_take,List.length_drop,List.all_cons,List.all_nil,AV.isCell,Bool.and_self,Bool.and_true,xAh,xAb,xAe,xAa,xAa,xAJ,List.length_map,xAo] <;> omega) | rfl | decide) only [xQo,xAq,xAf,xAc,xAk,xAz,opv,List.getD_cons_succ,List.getD_cons_zero,xAr,List.set_cons_succ,List.set_cons_zero,xAi,xAB,xAw,hi,decide_true,xAm,xAg,xAj,xAd,xAp,xAl,↓reduceIte,xAx,xAs,xAH,xA1,b1,xAu,List.drop_zero,List.take_succ_cons,List.take_nil,xBz,xMo,xBP,List.map_cons,List.map_nil,List.flatMap_cons,xEi,xCp,xDP,List.flatMap_nil,List.append_nil,List.mapM_cons,xCo,xBa,xB0,List.mapM_nil,Option.pure_def,Option.bind_eq_bind,Option.bind_some,Option.map_some,xHG,h1,xMp,xDZ,xI9,xC7,xCE,List.foldl_nil,← hBl,xMj,xGI,List.getElem?_cons_zero,List.getElem?_cons_succ,xBv,AV.cells,List.all_cons,AV.isCell,List.all_nil,Bool.and_self,List.length_append,List.append_assoc,xBe,List.length_cons,List.length_nil,Nat.zero_add,Nat.reduceAdd,xBJ,z7,xAZ,xBl,List.take_zero,List.nil_append,List.drop_succ_cons,List.drop_nil,xD1,xAN,xBq,c1,xBH,xBi,xBh,h2,xBg,xDx,xCq,Bool.and_true,Bool.false_eq_true,List.cons_append,z8,hset2,xBt,xAU,xA5,xBE,xBj,xBp,xBd,xNy,hz,xEW,xDn,Bool.or_true,xZt,xGn,xEh,Bool.not_true,xB4,xBC,xBu,hn,xC4,xA9,xAL,xCY,xBy,c0,hsm,Bool.and_false,xA2,xBc,xCf,xBo,xAK,xAA,hsame,xCd,o1,o3,xAt,xBf,hw,xAy,xTd]

theorem TV0.app {G : xAv} {v : AV} (h : TV0 G v) (X : xAv) : TV0 (G ++ X) v := by
  rcases h with h | ⟨id,l,rfl,hg,hs⟩
  · exact .inl h
  · exact .inr ⟨id,l,rfl,xBQ hg,hs⟩
theorem TV1.app {G : xAv} {v : AV} (h : TV1 G v) (X : xAv) : TV1 (G ++ X) v := by
  rcases h with h | ⟨id,cs,rfl,hg,hs,hc⟩
  · exact .inl h
  · exact .inr ⟨id,cs,rfl,xBQ hg,hs,fun c h => (hc c h).app X⟩

theorem xXk (hV : Valid A) {b : Nat} (h64 : b ≤ 64) (ho : (xFg A b).length ≤ b) : Va (xYb A (xFg A b)) := by
  have hp := xK5 ho
  have hd := fun (i j x : Nat) => xJy (n := A) (bu := b) ho (i := i) (j := j) (x := x)
  refine xN1 hV.v0 hV.v3 hp (by omega) (Int.le_refl _) (by omega) fun i j x hi hj hx => ?_
  have := (xUU (hd i j x hi hj hx)).1
  unfold xFJ
  omega

set_option maxRecDepth 10000 in
set_option maxHeartbeats 2000000 in
theorem xKy (hsm : L.pcall 36 [n.av] = some A.av) (hsame : L.pcall 30 [A.av,A.av] = some (.bool true)) {o : List Nat} (hol : o.length < 1099511627776) {i k m : Nat} {B : xAv} (h1 : xDD L 37 [A.av,.int .i64 bu] = some (.tup [.agg [.int .i64 A.vars,.int .i64 0,.own false i 0 o.length 1,.own false k 0 o.length 1],.own false m 0 o.length 1,.int .i64 0],B)) (hD : DetOwn A o (.own false i 0 o.length 1) (.own false k 0 o.length 1) (.own false m 0 o.length 1) B)
    (h2 : L.pcall 38 [A.av,.int .i64 bu] = some (.tup [(xYb A o).av,xFK o,.int .i64 0])) (hz : L.pcall 29 [(xYb A o).av,(xYb A o).av] = some (.bool true)) (hn : L.pcall 39 [xFK o,xFK o] = some (.bool true)) (hI : LwI n A G) {r : Int} (hi : r < 2) (h0i : 0 ≤ r) :
    ∃ G',L.loop xIa xS9 ⟨xIb (.int .i64 bu) (.ptr 0 0) (.bool false) (.ptr 1 0) (.int .i64 r),G⟩ = L.loop xIa xS9 ⟨xIb (.int .i64 bu) (.ptr 0 0) (.bool false) (.ptr 1 0) (.int .i64 (r + 1)),G'⟩ ∧ LwI n A G' := by
  have b0 := hI.b0
  have b1 := hI.b1
  unfold xYb Da.av Da.cells at h2 hz
  simp only [xCg,xDw] at h2 hz
  obtain ⟨tN,tF,tS,fN,fF,fS⟩ := hD
  generalize (xD0 A.vars (xFJ A o) o.length o.length).map rowsD = cN at *
  generalize bools (xG7 (xNn A o) o.length) = cF at *
  unfold xFK at h2 hn fS
  generalize o.map xCJ = cS at *
  generalize o.length = ol at *
  obtain ⟨X7,h7⟩ : ∃ X,X = Blk.cells false false [.int .i64 A.vars,.int .i64 0,.own false (G.length + i) 0 ol 1,.own false (G.length + k) 0 ol 1] := ⟨_,rfl⟩
  obtain ⟨X8,h8⟩ : ∃ X,X = Blk.cells false false [.int .i64 A.vars,.int .i64 0,.sl false ol cN,.sl false ol cF] := ⟨_,rfl⟩
  obtain ⟨Z,hZ⟩ : ∃ X,X = Blk.cells false false [.int .i64 0,.int .i64 0,.sl true 0 [],.sl true 0 []] := ⟨_,rfl⟩
  have tN' : TV2 (G ++ (B.map (xCU G.length) ++ [X7,X8])) (.own false (G.length + i) 0 ol 1) := tN.lift
  have tF' : TB (G ++ (B.map (xCU G.length) ++ [X7,X8])) (.own false (G.length + k) 0 ol 1) := tF.lift
  have tS' : TV1 (G ++ (B.map (xCU G.length) ++ [X7,X8])) (.own false (G.length + m) 0 ol 1) := tS.lift
  have gN : frz 5 (G ++ (B.map (xCU G.length) ++ [X7,X8])) (.own false (G.length + i) 0 ol 1) = some (.sl false ol cN) := TV2.frzl tN (fN 5 (by omega))
  have gF : frz 5 (G ++ (B.map (xCU G.length) ++ [X7,X8])) (.own false (G.length + k) 0 ol 1) = some (.sl false ol cF) := TB.frzl tF (fF 5 (by omega))
  have gS : frz 6 (G ++ (B.map (xCU G.length) ++ [X7,X8])) (.own false (G.length + m) 0 ol 1) = some (.sl false ol cS) := TV1.frzl tS (fS 6 (by omega))
  obtain ⟨Bl,hBl⟩ : ∃ Bl,Bl = B.map (xCU G.length) := ⟨_,rfl⟩
  rw [← hBl] at tN' tF' tS' gN gF gS
  obtain ⟨G2,o1,o2⟩ := xVQ (G := G ++ (Bl ++ [X7,X8])) (a := A.vars) (b := 0) tN' tF'
  obtain ⟨G3,o3,o4⟩ := xSR (G := G2 ++ [Blk.cells false false [.int .i64 A.vars,.int .i64 0,.own false (G.length + i) 0 ol 1,.own false (G.length + k) 0 ol 1]]) ((tS'.tw o2).app _)
  refine ⟨G3,?_,(((hI.app _).tw o2).app _).tw o4⟩
  have c0 : ∀ T : xAv,(G ++ T)[0]? = some (.cells false false n.cells) := fun T => xBQ b0
  have c1 : ∀ T : xAv,(G ++ T)[1]? = some (.cells false false A.cells) := fun T => xBQ b1
  have z7 : ∀ (Y : Blk) (T : xAv),(G ++ (Bl ++ (Y :: T)))[G.length + Bl.length]? = some Y := fun Y T => by rw [← List.append_assoc,← List.length_append]; exact xCy _ _
  have z8 : ∀ (Y Y' : Blk) (T : xAv),(G ++ (Bl ++ (Y :: Y' :: T)))[G.length + (Bl.length + 1)]? = some Y' := fun Y Y' T => by
    have := xNr (G ++ Bl) (Y :: Y' :: T) 1
    rw [List.length_append,List.append_assoc,Nat.add_assoc] at this
    exact this
  have xD1 : ∀ (Y Y' : Blk) (T : xAv),(G ++ (Bl ++ (Y' :: T))).set (G.length + Bl.length) Y = G ++ (Bl ++ (Y :: T)) := fun Y Y' T => by
    rw [← List.append_assoc,← List.length_append,List.set_append_right _ _ (Nat.le_refl _),Nat.sub_self,List.set_cons_zero,List.append_assoc]
  have hset2 : ∀ (Y Y' Y2 : Blk) (T : xAv),(G ++ (Bl ++ (Y2 :: Y' :: T))).set (G.length + (Bl.length + 1)) Y = G ++ (Bl ++ (Y2 :: Y :: T)) := fun Y Y' Y2 T => by
    rw [← List.append_assoc,← Nat.add_assoc,← List.length_append,List.set_append_right _ _ (by omega),show (G ++ Bl).length + 1 - (G ++ Bl).length = 1 by omega,List.set_cons_succ,List.set_cons_zero,List.append_assoc]
  have hw : IntKind.i64.wrap (r + 1) = r + 1 := by have : r = 0 ∨ r = 1 := by omega
                                                   rcases this with rfl | rfl <;> rfl
  rw [h7,h8] at gN gF gS o1
  unfold Aut.av at hsm hsame h1 h2
  rw [xV0]
  simp (maxSteps := 30000000) (disch := first | assumption | omega | (simp only [List.length_cons,List.length_nil,List.length_append,List.length_set,List.length_replicate,List.length_map,List.length_range,List.length_take,List.length_drop,List.all_cons,List.all_nil,AV.isCell,Bool.and_self,Bool.and_true,xAh,xAb,xAe,xAa,xAa,xAJ,List.length_map,xAo] <;> omega) | rfl | decide) only [xQo,xAq,xAf,xAc,xAk,xAz,opv,List.getD_cons_succ,List.getD_cons_zero,xAr,List.set_cons_succ,List.set_cons_zero,xAi,xAB,xAw,hi,decide_true,xAm,xAg,xAj,xAd,xAp,xAl,↓reduceIte,xAx,xAs,xAH,xA1,b1,xAu,List.drop_zero,List.take_succ_cons,List.take_nil,xBz,xMo,xBP,List.map_cons,List.map_nil,List.flatMap_cons,xEi,xCp,xDP,List.flatMap_nil,List.append_nil,List.mapM_cons,xCo,xBa,xB0,List.mapM_nil,Option.pure_def,Option.bind_eq_bind,Option.bind_some,Option.map_some,xHG,h1,xMp,xDZ,xI9,xC7,xCE,List.foldl_nil,← hBl,xMj,xGI,List.getElem?_cons_zero,List.getElem?_cons_succ,xBv,AV.cells,List.all_cons,AV.isCell,List.all_nil,Bool.and_self,List.length_append,List.append_assoc,xBe,List.length_cons,List.length_nil,Nat.zero_add,Nat.reduceAdd,xBJ,z7,xAZ,xBl,List.take_zero,List.nil_append,List.drop_succ_cons,List.drop_nil,xD1,xAN,xBq,c1,xBH,xBi,xBh,h2,xBg,xDx,xCq,Bool.and_true,Bool.false_eq_true,List.cons_append,z8,hset2,xBt,xAU,xA5,xBE,xBj,xBp,xBd,xNy,gN,gF,hz,xEW,xDn,Bool.true_or,xZt,xGn,xEh,Bool.not_true,xB4,xBC,xBu,gS,hn,xC4,xA9,xAL,xCY,xBy,c0,hsm,Bool.and_false,Bool.or_true,xA2,xBc,xCf,xBo,xAK,xAA,hsame,xCd,o1,o3,xAt,xBf,hw,xAy,xTd]

theorem xM3 (hsm : L.pcall 36 [n.av] = some A.av) (hT : TyA A) (hI : LwI n A G) {r : Int} (hi : r < 2) (h0i : 0 ≤ r) :
    ∃ G',L.loop xIa xS9 ⟨xIb (.int .i64 bu) (.ptr 0 0) (.bool false) (.ptr 1 0) (.int .i64 r),G⟩ = L.loop xIa xS9 ⟨xIb (.int .i64 bu) (.ptr 0 0) (.bool false) (.ptr 1 0) (.int .i64 (r + 1)),G'⟩ ∧ LwI n A G' := by
  have hsame : L.pcall 30 [A.av,A.av] = some (.bool true) := xUS A hT.st hT.fi hT.rl A.z1 A.z2 A.z3
  by_cases hc : xNc A = 0
  · by_cases hb : bu < 1 ∨ 64 < bu
    · obtain ⟨B,h1⟩ := xQe hT hc hb
      exact xJd hsm hsame h1 (xS0 hT hc hb) hI hi h0i
    · obtain ⟨b,rfl⟩ : ∃ b : Nat,bu = (b : Nat) := ⟨bu.toNat,by omega⟩
      by_cases ho : (xFg A b).length ≤ b
      · obtain ⟨i,k,m,B,h1,hD⟩ := xS8 hT hc (bu := b) (by omega) (by omega) ho
        have hV := xXk (chkE_zero.1 hc) (b := b) (by omega) ho
        have hbd : ∀ w ∈ xFg A b,w < 18446744073709551616 := by
          obtain ⟨G',lb,_,e2⟩ := xGx hT (chkE_zero.1 hc) (bu := b) (by omega) (by omega)
          exact e2.bd
        exact xKy hsm hsame (by omega) h1 hD (xUQ hT hc (by omega) (by omega) ho) (xUH hV) (xSb (by omega) hbd) hI hi h0i
      · obtain ⟨B,h1⟩ := xOc hT hc (bu := b) (by omega) (by omega) (by omega)
        exact xJd hsm hsame h1 (xQa hT hc (by omega) (by omega) (by omega)) hI hi h0i
  · obtain ⟨B,h1⟩ := xQd hT bu hc
    exact xJd hsm hsame h1 (xSZ hT bu hc) hI hi h0i
end

theorem yE3 (n : Aut) (hb : ∀ e ∈ n.rl,e.p < 256 ∧ e.n < 256) (bu : Int) : L.pcall 4 [n.av,.int .i64 bu] = some (.bool true) := by
  have hsm := xXU n
  have hT : TyA (cpA (smA n)) := ⟨by simp; omega,by simp; omega,by simp; omega,fun e he => hb e (List.mem_of_mem_take he)⟩
  generalize cpA (smA n) = A at *
  have hkk := k15
  obtain ⟨G1,r1,i1⟩ := xM3 (bu := bu) (r := 0) (G := [.cells false false n.cells,.cells false false A.cells]) hsm hT ⟨rfl,rfl⟩ (by omega) (by omega)
  obtain ⟨G2,r2,i2⟩ := xM3 (bu := bu) (r := 1) hsm hT i1 (by omega) (by omega)
  have r3 : L.loop xIa xS9 ⟨xIb (.int .i64 bu) (.ptr 0 0) (.bool false) (.ptr 1 0) (.int .i64 2),G2⟩ = some (.exit 0,⟨xIb (.int .i64 bu) (.ptr 0 0) (.bool false) (.ptr 1 0) (.int .i64 2),G2⟩) := by
    rw [xV0]
    simp (maxSteps := 30000000) (disch := first | assumption | omega | (simp only [List.length_cons,List.length_nil,List.length_append,List.length_set,List.length_replicate,List.length_map,List.length_range,List.length_take,List.length_drop,List.all_cons,List.all_nil,AV.isCell,Bool.and_self,Bool.and_true,xAh,xAb,xAe,xAa,xAa,xAJ,List.length_map,xAo] <;> omega) | rfl | decide) only [xQo,xAq,xAf,xAc,xAk,xAz,opv,List.getD_cons_succ,List.getD_cons_zero,xAr,List.set_cons_succ,List.set_cons_zero,xAi,xAB,xAw,Int.lt_irrefl,decide_false,xAm,xAg,xAj,xAd,xAp,xAl,Bool.false_eq_true,↓reduceIte,xBm,xA6,xAX,xTd]
  rw [show (0 : Int) + 1 = 1 from rfl] at r1
  rw [show (1 : Int) + 1 = 2 from rfl] at r2
  rw [r2,r3] at r1
  unfold Aut.av at hsm
  rw [a4p,a4,xBA]
  simp (maxSteps := 30000000) (disch := first | assumption | omega | (simp only [List.length_cons,List.length_nil,List.length_append,List.length_set,List.length_replicate,List.length_map,List.length_range,List.length_take,List.length_drop,List.all_cons,List.all_nil,AV.isCell,Bool.and_self,Bool.and_true,xAh,xAb,xAe,xAa,xAa,xAJ,List.length_map,xAo] <;> omega) | rfl | decide) only [xAT,List.length_cons,List.length_nil,Nat.zero_add,Nat.reduceAdd,Nat.reduceSub,xCF,List.cons_append,List.nil_append,xAq,xAf,xAc,xAk,xBv,AV.cells,opv,List.getD_cons_zero,List.all_cons,AV.isCell,List.all_nil,Bool.and_self,↓reduceIte,xAr,List.set_cons_succ,List.set_cons_zero,xAi,xAz,xAg,xAj,xAd,xAH,List.getD_cons_succ,xA1,List.getElem?_cons_zero,xAu,List.drop_zero,List.take_succ_cons,List.take_nil,xBz,xAm,xBH,List.map_cons,List.map_nil,xBi,xBP,List.mapM_cons,xCo,xBa,xB0,List.mapM_nil,Option.pure_def,Option.bind_eq_bind,Option.bind_some,Option.map_some,xBh,hsm,xBg,xDx,xCq,Bool.and_true,Bool.and_false,Bool.false_eq_true,xCE,List.flatMap_cons,xEi,xCp,xDP,List.flatMap_nil,List.append_nil,List.foldl_nil,xBe,xBJ,List.getElem?_cons_succ,xAZ,xBl,List.take_zero,List.drop_succ_cons,List.drop_nil,xAN,xBq,xAs,xA7,xTd,r1,xAR,hkk,xA0,xAP,xAV,xBk,xAD,xAS,xCr]

abbrev TI4 : TS := ⟨false,[.int .i64]⟩
theorem law4t (avs : List AV) (h : xNZ [yCB,TI4] avs) : L.pcall 4 avs = some (.bool true) := by
  obtain ⟨_,r,rfl,h0,h⟩ := xKi h
  obtain ⟨_,r,rfl,h1,h⟩ := xKi h
  obtain rfl := xSy h
  obtain ⟨n,rfl,hb⟩ := xXK h0
  obtain ⟨bu,rfl,_⟩ := xGw (xUz h1)
  exact yE3 n hb bu
end Go.Abs.Det
