/- The reference's Run and Accepts. -/
import Derived.Test.YtdkbhidfiplncaaAbsBun
import Derived.Test.YtdkbhidfiplncaaAMG
import Derived.Test.YtdkbhidfiplncaaAMB
import Derived.Test.YtdkbhidfiplncaaAME
import Derived.Test.YtdkbhidfiplncaaAMA
import Derived.Test.YtdkbhidfiplncaaAMF
namespace Go.Abs.Det
open Go Go.Abs
set_option linter.unusedSimpArgs false
set_option linter.unusedVariables false
set_option maxRecDepth 10000 in
set_option maxHeartbeats 4000000 in
theorem yEV {D : Da} (hV : Va D) {z : Bool} {t : List Lf} {S : List Int} (ht : t.length ≤ 31) (hS : S.length = t.length) (hx : ∀ e ∈ t,e.x < two D.vars)
  (hbd : ∀ s ∈ S,0 ≤ s ∧ s < D.next.length)
  (hrec : ∀ k,k < t.length → S.getD k 0 = nx D (if (t.getD k f0).l < 0 then D.empty else S.getD (t.getD k f0).l.toNat 0) (if (t.getD k f0).r < 0 then D.empty else S.getD (t.getD k f0).r.toNat 0) (t.getD k f0).x ∧
   ((t.getD k f0).l = -1 ∨ ((k : Int) < (t.getD k f0).l ∧ (t.getD k f0).l < (t.length : Nat))) ∧ ((t.getD k f0).r = -1 ∨ ((k : Int) < (t.getD k f0).r ∧ (t.getD k f0).r < (t.length : Nat)))) :
  ∀ i,i ≤ t.length → L.loop xMQ xZX ⟨xMR (tw z t) (.ptr 0 0) (.own false 1 0 t.length 1) (.int .i64 ((i : Nat) - 1)),[.cells false false D.cells,.cells false false (ints (List.replicate i 0 ++ S.drop i))]⟩ =
   some (.exit 0,⟨xMR (tw z t) (.ptr 0 0) (.own false 1 0 t.length 1) (.int .i64 (-1)),[.cells false false D.cells,.cells false false (ints S)]⟩) := by
 intro i
 induction i with
 | zero =>
  intro _
  rw [List.replicate_zero,List.nil_append,List.drop_zero]
  have e1 : (((0 : Nat) : Int) - 1) = -1 := by omega
  rw [e1,xMS]
  simp (maxSteps := 30000000) (disch := first | assumption | omega | (simp only [WL,AV.isCell,xAa,xAe] <;> omega) | rfl | decide) only [xGY,Int.reduceNeg,WB,Int.reduceLE,↓reduceIte,xJI]
 | succ i ih =>
  intro hi
  have ih' := ih (by omega)
  obtain ⟨q1,q2,q3⟩ := hrec i (by omega)
  have e1 : (((i + 1 : Nat) : Int) - 1) = (i : Nat) := by omega
  have hlen : (List.replicate (i + 1) 0 ++ S.drop (i + 1)).length = t.length := by simp; omega
  have hc0 : ∀ k,i < k → k < t.length → (List.replicate (i + 1) 0 ++ S.drop (i + 1)).getD k 0 = S.getD k 0 := fun k h1 h2 => by
   simp only [List.getD_eq_getElem?_getD]
   rw [List.getElem?_append_right (by simp; omega),List.getElem?_drop]
   congr 2; simp; omega
  have xB8 : ∀ y : Int,y = S.getD i 0 → (List.replicate (i + 1) 0 ++ S.drop (i + 1)).set i y = List.replicate i 0 ++ S.drop i := fun y hy => by
   subst hy
   apply List.ext_getElem?
   intro k
   rw [List.getElem?_set]
   by_cases c : i = k
   ·subst c
    rw [if_pos rfl,if_pos (by rw [hlen]; omega),List.getElem?_append_right (by simp),List.getElem?_drop]
    have : i + (i - (List.replicate i (0 : Int)).length) = i := by simp
    rw [this,List.getD_eq_getElem?_getD,List.getElem?_eq_getElem (by omega)]
    rfl
   ·rw [if_neg c]
    rcases Nat.lt_or_ge k i with h | h
    ·rw [List.getElem?_append_left (by simp; omega),List.getElem?_append_left (by simp; omega),List.getElem?_replicate,List.getElem?_replicate,if_pos (by omega),if_pos h]
    ·rw [List.getElem?_append_right (by simp; omega),List.getElem?_append_right (by simp; omega),List.getElem?_drop,List.getElem?_drop]
     congr 1; simp; omega
  generalize hcur : List.replicate (i + 1) 0 ++ S.drop (i + 1) = cur at *
  have hxi := hx _ (xGL (show i < t.length by omega))
  have hin : ∀ k,k < t.length → 0 ≤ S.getD k 0 ∧ S.getD k 0 < D.next.length := fun k hk => hbd _ (xAl (by omega))
  have hst := xB8 _ q1.symm
  unfold nx at hst
  have n64 := hV.n64
  have e0 := hV.e0
  have en := hV.en
  have hge : (0 : Int) ≤ (i : Nat) := by omega
  have hx8 : two D.vars ≤ 8 := (xAV hV.v3).1
  have G : ∀ a b : Int,(0 ≤ a ∧ a < D.next.length) → (0 ≤ b ∧ b < D.next.length) → (D.next.getD a.toNat []).length = D.next.length ∧ ((D.next.getD a.toNat []).getD b.toNat []).length = two D.vars ∧ List.take 1 (List.drop (t.getD i f0).x (ints ((D.next.getD a.toNat []).getD b.toNat []))) = [.int .i64 (((D.next.getD a.toNat []).getD b.toNat []).getD (t.getD i f0).x 0)] := fun a b ha hb => by
   have k1 := xAl (a := ([] : List (List Int))) (show a.toNat < D.next.length by omega)
   have l1 := hV.rl _ k1
   have k2 := xAl (a := ([] : List Int)) (show b.toNat < (D.next.getD a.toNat []).length by omega)
   have l2 := hV.cl _ k1 _ k2
   exact ⟨l1,l2,xAr _ _ (by omega)⟩
  clear hrec xB8 hbd hx
  unfold Da.cells at ih' ⊢
  by_cases cl : (t.getD i f0).l < 0
  ·rw [if_pos cl] at hst
   have cl' : ¬ (0 : Int) ≤ (t.getD i f0).l := by omega
   by_cases cr : (t.getD i f0).r < 0
   ·rw [if_pos cr] at hst
    have cr' : ¬ (0 : Int) ≤ (t.getD i f0).r := by omega
    obtain ⟨g1,g2,g3⟩ := G _ _ ⟨e0,en⟩ ⟨e0,en⟩
    rw [e1,xMS]
    simp (maxSteps := 30000000) (disch := first | assumption | omega | (simp only [WL,AV.isCell,xAa,xAe] <;> omega) | rfl | decide) only [xGY,WB,hge,↓reduceIte,xAj,xBa,cl',xBg,cr',xA2,rowsD,g1,xBy,rowT,g2,xIX,W2,AV.cells,hst,xJI,ih',Int.reduceNeg]
   ·rw [if_neg cr] at hst
    have cr' : (0 : Int) ≤ (t.getD i f0).r := by omega
    have hr := hin (t.getD i f0).r.toNat (by omega)
    have f2 : cur.getD (t.getD i f0).r.toNat 0 = S.getD (t.getD i f0).r.toNat 0 := hc0 _ (by omega) (by omega)
    have cr2 : (t.getD i f0).r < (t.length : Nat) := by omega
    obtain ⟨g1,g2,g3⟩ := G _ _ ⟨e0,en⟩ hr
    have hr1 := hr.1
    have hr2 := hr.2
    generalize S.getD (t.getD i f0).r.toNat 0 = sr at *
    rw [e1,xMS]
    simp (maxSteps := 30000000) (disch := first | assumption | omega | (simp only [WL,AV.isCell,xAa,xAe] <;> omega) | rfl | decide) only [xGY,WB,hge,↓reduceIte,xAj,xBa,cl',xBg,cr',W2,f2,xA2,rowsD,g1,xBy,rowT,g2,xIX,AV.cells,hst,xJI,ih',Int.reduceNeg]
  ·rw [if_neg cl] at hst
   have cl' : (0 : Int) ≤ (t.getD i f0).l := by omega
   have hl := hin (t.getD i f0).l.toNat (by omega)
   have f1 : cur.getD (t.getD i f0).l.toNat 0 = S.getD (t.getD i f0).l.toNat 0 := hc0 _ (by omega) (by omega)
   have cl2 : (t.getD i f0).l < (t.length : Nat) := by omega
   have hl1 := hl.1
   have hl2 := hl.2
   by_cases cr : (t.getD i f0).r < 0
   ·rw [if_pos cr] at hst
    have cr' : ¬ (0 : Int) ≤ (t.getD i f0).r := by omega
    obtain ⟨g1,g2,g3⟩ := G _ _ hl ⟨e0,en⟩
    generalize S.getD (t.getD i f0).l.toNat 0 = sl at *
    rw [e1,xMS]
    simp (maxSteps := 30000000) (disch := first | assumption | omega | (simp only [WL,AV.isCell,xAa,xAe] <;> omega) | rfl | decide) only [xGY,WB,hge,↓reduceIte,xAj,xBa,cl',W2,f1,xBg,cr',xA2,rowsD,g1,xBy,rowT,g2,xIX,AV.cells,hst,xJI,ih',Int.reduceNeg]
   ·rw [if_neg cr] at hst
    have cr' : (0 : Int) ≤ (t.getD i f0).r := by omega
    have hr := hin (t.getD i f0).r.toNat (by omega)
    have f2 : cur.getD (t.getD i f0).r.toNat 0 = S.getD (t.getD i f0).r.toNat 0 := hc0 _ (by omega) (by omega)
    have cr2 : (t.getD i f0).r < (t.length : Nat) := by omega
    obtain ⟨g1,g2,g3⟩ := G _ _ hl hr
    have hr1 := hr.1
    have hr2 := hr.2
    generalize S.getD (t.getD i f0).l.toNat 0 = sl at *
    generalize S.getD (t.getD i f0).r.toNat 0 = sr at *
    rw [e1,xMS]
    simp (maxSteps := 30000000) (disch := first | assumption | omega | (simp only [WL,AV.isCell,xAa,xAe] <;> omega) | rfl | decide) only [xGY,WB,hge,↓reduceIte,xAj,xBa,cl',W2,f1,xBg,cr',f2,xA2,rowsD,g1,xBy,rowT,g2,xIX,AV.cells,hst,xJI,ih',Int.reduceNeg]
theorem yGL {D : Da} (hV : Va D) : ∀ T : BT,T.labs (· < two D.vars) → ∀ s ∈ stL D T,0 ≤ s ∧ s < D.next.length := by
 intro T
 induction T with
 | nil => intro _ s hs; cases hs
 | node x l r ihl ihr =>
  intro h s hs
  rw [stL,List.mem_cons,List.mem_append] at hs
  rcases hs with rfl | hs | hs
  ·exact xLp hV h
  ·exact ihl h.2.1 s hs
  ·exact ihr h.2.2 s hs
theorem xUl {D : Da} (hV : Va D) (z : Bool) {T : BT} (ht : T.size ≤ 31) (hx : T.labs (· < two D.vars)) : L.pcall 17 [D.av,tw z (xBj 0 T)] = some (.tup [.sl false T.size (ints (stL D T)),.int .i64 0]) := by
 have hl := xAS T 0
 have hsl := xCH D T
 have h15 := xDg hV
 have h55 := xUG z (xBj 0 T) D.vars.toNat (by have := hV.v3; omega) (by omega) (fun e he => by have := (xCf T 0).2 hx e he; have := (xAV hV.v3).1; omega)
 rw [(xFi hV.v0).2 ⟨T,rfl,ht,hx⟩,Int.toNat_of_nonneg hV.v0] at h55
 have h := yEV hV (z := z) (t := xBj 0 T) (S := stL D T) (by omega) (by omega) (fun e he => (xCf T 0).2 hx e he) (yGL hV T hx) (fun k hk => by
  have := xT0 D T 0 (fun k => (stL D T).getD k 0) (fun k hk => by rw [Nat.zero_add]) k (by omega)
  simp only [Nat.zero_add] at this
  rw [← hl] at this
  exact this) (xBj 0 T).length (Nat.le_refl _)
 rw [List.drop_of_length_le (by omega),List.append_nil] at h
 have htk : List.take T.size (stL D T) = stL D T := List.take_of_length_le (by omega)
 unfold tw at h h55 ⊢
 simp only [hl] at h h55 ⊢
 generalize stL D T = S at *
 generalize lfs (xBj 0 T) = tl at *
 generalize T.size = n at *
 unfold Da.av at h15 ⊢
 unfold Da.cells at h15 h ⊢
 rw [yHI,a17,xAf]
 simp (maxSteps := 30000000) (disch := first | assumption | omega | (simp only [WL,AV.isCell,xAa,xAe] <;> omega) | rfl | decide) only [WB,Nat.reduceAdd,Nat.reduceSub,AV.cells,AV.isCell,↓reduceIte,h15,xA0,xAx,h55,xBp,xJI,h,Int.reduceNeg,xAY,W2,htk]
theorem xQq {D : Da} (hV : Va D) (z : Bool) (t : List Lf) (hl : t.length < 1099511627776) (hx : ∀ e ∈ t,e.x < 256) (he : xCJ t D.vars.toNat ≠ 0) : L.pcall 17 [D.av,tw z t] = some (.tup [.sl true 0 [],.int .i64 (xCJ t D.vars.toNat)]) := by
 have h15 := xDg hV
 have h55 := xUG z t D.vars.toNat (by have := hV.v3; omega) hl hx
 rw [Int.toNat_of_nonneg hV.v0] at h55
 generalize xCJ t D.vars.toNat = e at *
 unfold Da.av at h15 ⊢
 unfold Da.cells at h15 ⊢
 rw [yHI,a17,xAf]
 simp (maxSteps := 30000000) (disch := first | assumption | omega | (simp only [WL,AV.isCell,xAa,xAe] <;> omega) | rfl | decide) only [WB,Nat.reduceAdd,Nat.reduceSub,AV.cells,AV.isCell,↓reduceIte,h15,xA0,xAx,h55,he]
theorem xQr {d : Dfa} (hS : Sm d) (he : xB6 d ≠ 0) (z : Bool) (t : List Lf) : L.pcall 17 [d.av,tw z t] = some (.tup [.sl true 0 [],.int .i64 (xB6 d)]) := by
 have h15 := xRD d hS
 generalize xB6 d = e at *
 unfold Dfa.av Dfa.cells at h15 ⊢
 rw [yHI,a17,xAf]
 simp (maxSteps := 30000000) (disch := first | assumption | omega | (simp only [WL,AV.isCell,xAa,xAe] <;> omega) | rfl | decide) only [WB,Nat.reduceAdd,Nat.reduceSub,AV.cells,AV.isCell,↓reduceIte,h15,xA0,xAx,he]
theorem yBB {D : Da} (hV : Va D) (z : Bool) {T : BT} (ht : T.size ≤ 31) (hx : T.labs (· < two D.vars)) : L.pcall 19 [D.av,tw z (xBj 0 T)] = some (.tup [.bool (D.fin.getD (stB D T).toNat false),.int .i64 0]) := by
 have hl := xAS T 0
 have hsl := xCH D T
 have h17 := xUl hV z ht hx
 have fl := hV.fl
 have hb := xLp hV hx
 have n64 := hV.n64
 by_cases h0 : T.size = 0
 ·have hT : T = .nil := by
   cases T with
   | nil => rfl
   | node x l r => simp [BT.size] at h0
  subst hT
  have f1 : List.take 1 (List.drop D.empty.toNat (bools D.fin)) = [.bool (D.fin.getD D.empty.toNat false)] := xAr _ _ (by have := hV.en; omega)
  have e0 := hV.e0
  have en := hV.en
  rw [show stB D .nil = D.empty from rfl]
  unfold tw at h17 ⊢
  simp only [hl] at h17 ⊢
  simp only [show BT.nil.size = 0 from rfl] at h17 ⊢
  generalize D.fin.getD D.empty.toNat false = fb at *
  unfold Da.av at h17 ⊢
  unfold Da.cells at h17 ⊢
  simp only [fl] at h17 ⊢
  rw [yHb,a19,xAf]
  simp (maxSteps := 30000000) (disch := first | assumption | omega | (simp only [WL,AV.isCell,xAa,xAe] <;> omega) | rfl | decide) only [WB,Nat.reduceAdd,Nat.reduceSub,AV.cells,AV.isCell,↓reduceIte,h17,xA0,xAx,f1]
 ·have hr := yBo D (T := T) (by omega)
  have f1 : List.take 1 (List.drop (stB D T).toNat (bools D.fin)) = [.bool (D.fin.getD (stB D T).toNat false)] := xAr _ _ (by omega)
  have hb1 := hb.1
  have hb2 := hb.2
  have h0' : (((T.size : Nat) : Int) = 0) = False := eq_false (by omega)
  have hp : 0 < T.size := by omega
  have g0 : List.take 1 (ints (stL D T)) = [.int .i64 (stB D T)] := by
   have : List.take 1 (List.drop 0 (ints (stL D T))) = [.int .i64 ((stL D T).getD 0 0)] := xAr _ _ (by omega)
   rw [List.drop_zero,hr] at this
   exact this
  unfold tw at h17 ⊢
  simp only [hl] at h17 ⊢
  generalize D.fin.getD (stB D T).toNat false = fb at *
  generalize stB D T = st at *
  generalize stL D T = S at *
  generalize lfs (xBj 0 T) = tl at *
  generalize T.size = n at *
  unfold Da.av at h17 ⊢
  unfold Da.cells at h17 ⊢
  simp only [fl] at h17 ⊢
  rw [yHb,a19,xAf]
  simp (maxSteps := 30000000) (disch := first | assumption | omega | (simp only [WL,AV.isCell,xAa,xAe] <;> omega) | rfl | decide) only [WB,Nat.reduceAdd,Nat.reduceSub,AV.cells,AV.isCell,↓reduceIte,h17,xA0,xAx,h0',xAj,g0,f1]
theorem xYY {D : Da} (hV : Va D) (z : Bool) (t : List Lf) (hl : t.length < 1099511627776) (hx : ∀ e ∈ t,e.x < 256) (he : xCJ t D.vars.toNat ≠ 0) : L.pcall 19 [D.av,tw z t] = some (.tup [.bool false,.int .i64 (xCJ t D.vars.toNat)]) := by
 have h17 := xQq hV z t hl hx he
 generalize xCJ t D.vars.toNat = e at *
 unfold Da.av at h17 ⊢
 unfold Da.cells at h17 ⊢
 rw [yHb,a19,xAf]
 simp (maxSteps := 30000000) (disch := first | assumption | omega | (simp only [WL,AV.isCell,xAa,xAe] <;> omega) | rfl | decide) only [WB,Nat.reduceAdd,Nat.reduceSub,AV.cells,AV.isCell,↓reduceIte,h17,xA0,xAx,he]
theorem xYZ {d : Dfa} (hS : Sm d) (he : xB6 d ≠ 0) (z : Bool) (t : List Lf) : L.pcall 19 [d.av,tw z t] = some (.tup [.bool false,.int .i64 (xB6 d)]) := by
 have h17 := xQr hS he z t
 generalize xB6 d = e at *
 unfold Dfa.av at h17 ⊢
 unfold Dfa.cells at h17 ⊢
 rw [yHb,a19,xAf]
 simp (maxSteps := 30000000) (disch := first | assumption | omega | (simp only [WL,AV.isCell,xAa,xAe] <;> omega) | rfl | decide) only [WB,Nat.reduceAdd,Nat.reduceSub,AV.cells,AV.isCell,↓reduceIte,h17,xA0,xAx,he]
section
variable {D : Da} {F : List Int}
set_option maxHeartbeats 1000000 in
theorem yJV (hV : Va D) {s6 : AV} : ∀ d l G,l + d = D.next.length → NF D (fiL D l) [] G →
  ∃ G',L.loop xNa xZ4 ⟨xNb (.ptr 0 0) (.ptr 1 0) (.int .i64 (D.next.length : Nat)) s6 (.ptr 2 0) (.int .i64 (l : Nat)),G⟩ =
   some (.exit 0,⟨xNb (.ptr 0 0) (.ptr 1 0) (.int .i64 (D.next.length : Nat)) s6 (.ptr 2 0) (.int .i64 (D.next.length : Nat)),G'⟩) ∧ NF D (fiL D D.next.length) [] G' := by
 have n64 := hV.n64
 have fl := hV.fl
 intro d
 induction d with
 | zero =>
  intro l G h hN
  obtain rfl : l = D.next.length := by omega
  refine ⟨G,?_,hN⟩
  rw [xVM]
  simp (maxSteps := 30000000) (disch := first | assumption | omega | (simp only [WL,AV.isCell,xAa,xAn] <;> omega) | rfl | decide) only [xM9,WB,↓reduceIte,xRR]
 | succ d ih =>
  intro l G h hN
  have hlt : (l : Int) < (D.next.length : Nat) := by omega
  have hfs := xT2 D l
  have hfl := xMt D l
  have gf : List.take 1 (List.drop l (bools D.fin)) = [.bool (D.fin.getD l false)] := xDN (by omega)
  obtain ⟨vF0,vR0,b0,_⟩ := hN
  have hN : NF D (fiL D l) [] G := ⟨vF0,vR0,b0,by assumption⟩
  cases c : D.fin.getD l false with
  | true =>
   rw [c,if_pos rfl] at hfs
   rw [c] at gf
   obtain ⟨vF,vR,vF',G1,g2,p1,g2',hN',id,m,rfl⟩ := hN.final (l : Int) (by omega)
   rw [← hfs] at hN'
   obtain ⟨G',r1,r2⟩ := ih (l + 1) _ (by omega) hN'
   refine ⟨G',?_,r2⟩
   unfold Da.cells at b0
   rw [xVM]
   simp (maxSteps := 30000000) (disch := first | assumption | omega | (simp only [WL,AV.isCell,xAa,xAn] <;> omega) | rfl | decide) only [xM9,WB,hlt,↓reduceIte,b0,fl,gf,g2,AV.cells,AV.isCell,p1,g2',Nat.reduceAdd,xRR,r1]
  | false =>
   rw [c,if_neg (by simp)] at hfs
   rw [c] at gf
   rw [← hfs] at hN
   obtain ⟨G',r1,r2⟩ := ih (l + 1) G (by omega) hN
   refine ⟨G',?_,r2⟩
   unfold Da.cells at b0
   rw [xVM]
   simp (maxSteps := 30000000) (disch := first | assumption | omega | (simp only [WL,AV.isCell,xAa,xAn] <;> omega) | rfl | decide) only [xM9,WB,hlt,↓reduceIte,b0,fl,gf,xRR,r1]
set_option maxHeartbeats 1000000 in
theorem yJW (hV : Va D) {l r : Nat} (hl : l < D.next.length) (hr : r < D.next.length) : ∀ d x R G,x + d = two D.vars → R.length + d ≤ 5000 → NF D F R G →
  ∃ G',L.loop xNc xZ5 ⟨xNd (.ptr 0 0) (.ptr 1 0) (.int .i64 (D.next.length : Nat)) (.int .i64 (two D.vars : Nat)) (.ptr 2 0) (.int .i64 (l : Nat)) (.int .i64 (r : Nat)) (.int .i64 (x : Nat)),G⟩ =
   some (.exit 6,⟨xNd (.ptr 0 0) (.ptr 1 0) (.int .i64 (D.next.length : Nat)) (.int .i64 (two D.vars : Nat)) (.ptr 2 0) (.int .i64 (l : Nat)) (.int .i64 (r : Nat)) (.int .i64 (two D.vars : Nat)),G'⟩) ∧
   NF D F (R ++ (rlX D l r (two D.vars)).drop x) G' := by
 have h8 := (xAV hV.v3).1
 have n64 := hV.n64
 have m1 := xAl (a := ([] : List (List Int))) hl
 have m2 := hV.rl _ m1
 have m3 := xAl (a := ([] : List Int)) (show r < (D.next.getD l []).length by omega)
 have m4 := hV.cl _ m1 _ m3
 intro d
 induction d with
 | zero =>
  intro x R G h hR hN
  obtain rfl : x = two D.vars := by omega
  refine ⟨G,?_,by rw [List.drop_of_length_le (by rw [xEz]; omega),List.append_nil]; exact hN⟩
  rw [yB8]
  simp (maxSteps := 30000000) (disch := first | assumption | omega | (simp only [WL,AV.isCell,xAa,xAn] <;> omega) | rfl | decide) only [xRS,WB,↓reduceIte,xVN]
 | succ d ih =>
  intro x R G h hR hN
  have hlt : (x : Int) < (two D.vars : Nat) := by omega
  obtain ⟨vF,vR,vR',G1,g0,g2,p1,g2',hN',id,m,rfl⟩ := hN.rule ⟨(l : Nat),(r : Nat),nx D (l : Nat) (r : Nat) x,x,two D.vars - 1 - x⟩ (by omega)
  obtain ⟨G',q1,q2⟩ := ih (x + 1) (R ++ [⟨(l : Nat),(r : Nat),nx D (l : Nat) (r : Nat) x,x,two D.vars - 1 - x⟩]) _ (by omega) (by simp; omega) hN'
  refine ⟨G',?_,?_⟩
  ·have hnx : nx D (l : Nat) (r : Nat) x = ((D.next.getD l []).getD r []).getD x 0 := rfl
   have g1 : List.take 1 (List.drop x (ints ((D.next.getD l []).getD r []))) = [.int .i64 (((D.next.getD l []).getD r []).getD x 0)] := xAr _ _ (by omega)
   simp only [xLq] at p1
   rw [hnx] at p1
   have cx : IntKind.u8.wrap (x : Int) = (x : Int) := by simp [IntKind.wrap,IntKind.bits,IntKind.signed]; omega
   have cy : IntKind.u8.wrap (((two D.vars : Nat) : Int) - 1 - (x : Int)) = ((two D.vars - 1 - x : Nat) : Int) := by
    rw [show ((two D.vars : Nat) : Int) - 1 - (x : Int) = ((two D.vars - 1 - x : Nat) : Int) by omega]
    simp [IntKind.wrap,IntKind.bits,IntKind.signed]; omega
   unfold Da.cells at g0
   rw [yB8]
   simp (maxSteps := 30000000) (disch := first | assumption | omega | (simp only [WL,AV.isCell,xAa,xAn] <;> omega) | rfl | decide) only [xRS,WB,hlt,↓reduceIte,g2,g0,xA2,rowsD,m2,xBy,rowT,m4,W2,cx,xAj,AV.cells,Nat.reduceAdd,Nat.reduceLeDiff,AV.isCell,Nat.reduceMul,p1,g2',xVN,q1]
  ·rw [List.append_assoc] at q2
   have hd : (rlX D l r (two D.vars)).drop x = ⟨(l : Nat),(r : Nat),nx D (l : Nat) (r : Nat) x,x,two D.vars - 1 - x⟩ :: (rlX D l r (two D.vars)).drop (x + 1) := by
    rw [List.drop_eq_getElem_cons (by rw [xEz]; omega)]
    congr 1
    simp [rlX]
   rw [hd]
   exact q2
end
section
variable {D : Da} {F : List Int}
theorem yJX (hV : Va D) {l : Nat} (hl : l < D.next.length) : ∀ d r R G,r + d = D.next.length → R.length + d * two D.vars ≤ 5000 → NF D F R G →
  ∃ G',L.loop xNe xZ6 ⟨xNf (.ptr 0 0) (.ptr 1 0) (.int .i64 (D.next.length : Nat)) (.int .i64 (two D.vars : Nat)) (.ptr 2 0) (.int .i64 (l : Nat)) (.int .i64 (r : Nat)),G⟩ =
   some (.exit 4,⟨xNf (.ptr 0 0) (.ptr 1 0) (.int .i64 (D.next.length : Nat)) (.int .i64 (two D.vars : Nat)) (.ptr 2 0) (.int .i64 (l : Nat)) (.int .i64 (D.next.length : Nat)),G'⟩) ∧
   ∀ R0,R = R0 ++ rlR D l r → NF D F (R0 ++ rlR D l D.next.length) G' := by
 have h8 := (xAV hV.v3).1
 have n64 := hV.n64
 intro d
 induction d with
 | zero =>
  intro r R G h hR hN
  obtain rfl : r = D.next.length := by omega
  refine ⟨G,?_,fun R0 e => by rw [← e]; exact hN⟩
  rw [yB9]
  simp (maxSteps := 30000000) (disch := first | assumption | omega | (simp only [WL,AV.isCell,xAa,xAn] <;> omega) | rfl | decide) only [xRT,WB,↓reduceIte,xVO]
 | succ d ih =>
  intro r R G h hR hN
  have hlt : (r : Int) < (D.next.length : Nat) := by omega
  have hr : r < D.next.length := by omega
  rw [Nat.add_mul,Nat.one_mul] at hR
  obtain ⟨G1,q1,q2⟩ := yJW hV hl hr (two D.vars) 0 R G (by omega) (by omega) hN
  rw [List.drop_zero] at q2
  obtain ⟨G',r1,r2⟩ := ih (r + 1) _ G1 (by omega) (by rw [List.length_append,xEz]; omega) q2
  refine ⟨G',?_,fun R0 e => r2 R0 (by rw [e,xMr,List.append_assoc])⟩
  simp only [Int.natCast_zero] at q1
  rw [yB9]
  simp (maxSteps := 30000000) (disch := first | assumption | omega | (simp only [WL,AV.isCell,xAa,xAn] <;> omega) | rfl | decide) only [xRT,WB,hlt,↓reduceIte,xVN,q1,xVO,r1]
theorem yJY (hV : Va D) (hn : D.next.length * (D.next.length * two D.vars) ≤ 512) : ∀ d l G,l + d = D.next.length → NF D F (rlL D l) G →
  ∃ G',L.loop xNg xZ7 ⟨xNh (.ptr 0 0) (.ptr 1 0) (.int .i64 (D.next.length : Nat)) (.int .i64 (two D.vars : Nat)) (.ptr 2 0) (.int .i64 (l : Nat)),G⟩ =
   some (.exit 2,⟨xNh (.ptr 0 0) (.ptr 1 0) (.int .i64 (D.next.length : Nat)) (.int .i64 (two D.vars : Nat)) (.ptr 2 0) (.int .i64 (D.next.length : Nat)),G'⟩) ∧ NF D F (rlL D D.next.length) G' := by
 have n64 := hV.n64
 intro d
 induction d with
 | zero =>
  intro l G h hN
  obtain rfl : l = D.next.length := by omega
  refine ⟨G,?_,hN⟩
  rw [yCa]
  simp (maxSteps := 30000000) (disch := first | assumption | omega | (simp only [WL,AV.isCell,xAa,xAn] <;> omega) | rfl | decide) only [xRU,WB,↓reduceIte,xVP]
 | succ d ih =>
  intro l G h hN
  have hlt : (l : Int) < (D.next.length : Nat) := by omega
  have hl : l < D.next.length := by omega
  have hrl := xMs D l
  have hle : l * (D.next.length * two D.vars) ≤ D.next.length * (D.next.length * two D.vars) := Nat.mul_le_mul_right _ (by omega)
  have h1 : D.next.length * two D.vars ≤ D.next.length * (D.next.length * two D.vars) := Nat.le_mul_of_pos_left _ (by omega)
  obtain ⟨G2,q1,q2⟩ := yJX hV hl D.next.length 0 _ _ (by omega) (by omega) hN
  have hN2 := q2 (rlL D l) (by simp [rlR])
  rw [← xGJ] at hN2
  obtain ⟨G',r1,r2⟩ := ih (l + 1) G2 (by omega) hN2
  refine ⟨G',?_,r2⟩
  simp only [Int.natCast_zero] at q1
  rw [yCa]
  simp (maxSteps := 30000000) (disch := first | assumption | omega | (simp only [WL,AV.isCell,xAa,xAn] <;> omega) | rfl | decide) only [xRU,WB,hlt,↓reduceIte,xVO,q1,xVP,r1]
abbrev zNf : AV := .agg [.int .i64 0,.int .i64 0,.sl true 0 [],.sl true 0 [],.sl true 0 []]
set_option maxHeartbeats 2000000 in
theorem yBC (hV : Va D) (hn : D.next.length * (D.next.length * two D.vars) ≤ 512) : L.pcall 28 [D.av] = some (.tup [(toN D).av,.int .i64 0]) := by
 have hk := xDg hV
 have h8 := (xAV hV.v3).1
 have hsh := xBU hV.v0 hV.v3
 have hv : ¬ D.vars < 0 := by have := hV.v0; omega
 have n64 := hV.n64
 have hn2 : D.next.length * D.next.length * two D.vars ≤ 512 := by rw [Nat.mul_assoc]; exact hn
 have hn3 : (512 < ((D.next.length * D.next.length * two D.vars : Nat) : Int)) = False := eq_false (by omega)
 have hm64 : D.next.length * D.next.length ≤ 64 * 64 := Nat.mul_le_mul n64 n64
 have hN0 : NF D (fiL D 0) [] [.cells false false D.cells,.cells false false [.int .i64 0,.int .i64 0,.sl true 0 [],.sl true 0 [],.sl true 0 []],.cells false false [.int .i64 D.vars,.int .i64 (D.next.length : Nat),.sl false 1 [.int .i64 D.empty],.sl true 0 [],.sl true 0 []]] :=
  ⟨.sl true 0 [],.sl true 0 [],rfl,rfl,rfl,.nil _ _ _,.nil _ _ _,fun b hb => by obtain ⟨z,o,n,es,e⟩ := hb; cases e⟩
 obtain ⟨G1,q0,hN1⟩ := yJV hV (s6 := .int .i64 (two D.vars : Nat)) D.next.length 0 _ (by omega) hN0
 obtain ⟨G,q1,vF,vR,b0,b1,b2,hF,hR,hd⟩ := yJY hV hn D.next.length 0 G1 (by omega) hN1
 have l2 := (List.getElem?_eq_some_iff.1 b2).1
 have sl := fun Z : Blk => (List.getElem?_set_self (l := G) (a := Z) (show 1 < G.length by omega))
 have hF' := fun Z : Blk => (hF.other (H' := G.set 1 Z) fun b hb => List.getElem?_set_ne (by have := (hF.inb hb).2; omega)).dat (xQg _) 3
 have hR' := fun Z : Blk => (hR.other (H' := G.set 1 Z) fun b hb => List.getElem?_set_ne (by have := (hR.inb hb).2; omega)).dat (xYE _) 3
 simp only [Int.natCast_zero] at q0 q1
 unfold toN Aut.av Aut.cells
 unfold iw
 generalize fiL D D.next.length = FF at *
 generalize rlL D D.next.length = RR at *
 unfold Da.av at hk ⊢
 unfold Da.cells at hk q0 ⊢
 have hb : xA3 L a28 [.agg [.int .i64 D.vars,.int .i64 D.empty,.sl false D.next.length (D.next.map rowsD),.sl false D.fin.length (bools D.fin)]] [] =
   some (.tup [.agg [.int .i64 D.vars,.int .i64 (D.next.length : Nat),.sl false 1 [.int .i64 D.empty],vF,vR],.int .i64 0],G.set 1 (.cells false false [.int .i64 D.vars,.int .i64 (D.next.length : Nat),.sl false 1 [.int .i64 D.empty],vF,vR])) := by
  have hm64' := hm64
  rcases hF with ⟨_,_,rfl⟩ | ⟨jF,rfl,_⟩ <;> rcases hR with ⟨_,_,rfl⟩ | ⟨jR,rfl,_⟩ <;>
  ·rw [a28]
   simp (maxSteps := 30000000) (disch := first | assumption | omega | (simp only [WL,AV.isCell,xAa,xAn] <;> omega) | rfl | decide) only [WB,Nat.reduceSub,AV.cells,AV.isCell,↓reduceIte,hk,xA0,xAx,hsh,xAj,hn3,Nat.reduceAdd,Nat.reduceLeDiff,xRR,q0,xVP,q1,b2,b1,sl]
 rw [yHL]
 refine xD1 hb ?_
 show ((([AV.agg [.int .i64 D.vars,.int .i64 (D.next.length : Nat),.sl false 1 [.int .i64 D.empty],vF,vR],AV.int .i64 0]).mapM (frz 5 _)).map AV.tup) = _
 simp only [List.mapM_cons,List.mapM_nil,xCy,xLY,xXc,hF',hR',Option.pure_def,Option.bind_eq_bind,Option.bind_some,Option.map_some]
 rfl
theorem xVm (hV : Va D) (hn : 512 < D.next.length * (D.next.length * two D.vars)) : L.pcall 28 [D.av] = some (.tup [zNf,.int .i64 4]) := by
 have hk := xDg hV
 have h8 := (xAV hV.v3).1
 have hsh := xBU hV.v0 hV.v3
 have hv : ¬ D.vars < 0 := by have := hV.v0; omega
 have n64 := hV.n64
 have hn2 : 512 < D.next.length * D.next.length * two D.vars := by rw [Nat.mul_assoc]; exact hn
 have hn3 : (512 < ((D.next.length * D.next.length * two D.vars : Nat) : Int)) = True := eq_true (by omega)
 have hm64 : D.next.length * D.next.length ≤ 64 * 64 := Nat.mul_le_mul n64 n64
 have hm8 : D.next.length * D.next.length * two D.vars ≤ 64 * 64 * 8 := Nat.mul_le_mul hm64 h8
 unfold Da.av at hk ⊢
 unfold Da.cells at hk ⊢
 rw [yHL,a28,xAf]
 simp (maxSteps := 30000000) (disch := first | assumption | omega | (simp only [WL,AV.isCell,xAa,xAn] <;> omega) | rfl | decide) only [WB,Nat.reduceSub,AV.cells,AV.isCell,↓reduceIte,hk,xA0,xAx,hsh,xAj,hn3,Nat.reduceAdd]
theorem xY0 {d : Dfa} (hS : Sm d) (he : xB6 d ≠ 0) : L.pcall 28 [d.av] = some (.tup [zNf,.int .i64 (xB6 d)]) := by
 have h15 := xRD d hS
 generalize xB6 d = e at *
 unfold Dfa.av Dfa.cells at h15 ⊢
 rw [yHL,a28,xAf]
 simp (maxSteps := 30000000) (disch := first | assumption | omega | (simp only [WL,AV.isCell,xAa,xAn] <;> omega) | rfl | decide) only [WB,Nat.reduceSub,AV.cells,AV.isCell,↓reduceIte,h15,xA0,xAx,he,Nat.reduceAdd]
end
theorem xFn {l : List Rl} {z z' : Bool} {s4 : AV} {H : xAc} (hl : l.length < 1099511627776) : ∀ d i,i + d = l.length →
  L.loop xN6 yAt ⟨xN7 (.sl z l.length (rls l)) (.sl z' l.length (rls l)) s4 (.int .i64 (i : Nat)),H⟩ = some (.exit 0,⟨xN7 (.sl z l.length (rls l)) (.sl z' l.length (rls l)) s4 (.int .i64 (l.length : Nat)),H⟩)
 | 0,i,h => by
  obtain rfl : i = l.length := by omega
  rw [yCr]
  simp (maxSteps := 30000000) (disch := first | assumption | omega | (simp only [WL,AV.isCell,xAn] <;> omega) | rfl | decide) only [xSo,WB,↓reduceIte,xWf]
 | d + 1,i,h => by
  have hlt : (i : Int) < (l.length : Nat) := by omega
  have ih := xFn (z := z) (z' := z') (s4 := s4) (H := H) hl d (i + 1) (by omega)
  rw [yCr]
  simp (maxSteps := 30000000) (disch := first | assumption | omega | (simp only [WL,AV.isCell,xAn] <;> omega) | rfl | decide) only [xSo,WB,hlt,↓reduceIte,yGC,xAj,xBS,eq1,bne_self_eq_false,xWf,ih]
theorem yBD (z z' : Bool) (l : List Rl) (hl : l.length < 1099511627776) : L.pcall 68 [.sl z l.length (rls l),.sl z' l.length (rls l)] = some (.bool true) := by
 have ih := fun s4 => xFn (z := z) (z' := z') (s4 := s4) (H := []) hl l.length 0 (by omega)
 simp only [Int.natCast_zero] at ih
 rw [yJI,a68,xAf]
 simp (maxSteps := 30000000) (disch := first | assumption | omega | (simp only [WL,AV.isCell,xAn] <;> omega) | rfl | decide) only [WB,Nat.reduceAdd,Nat.reduceSub,↓reduceIte,xWf,ih]
theorem xUm (n : Aut) (h1 : n.st.length < 1099511627776) (h2 : n.fi.length < 1099511627776) (h3 : n.rl.length < 1099511627776) (z1 z2 z3 : Bool) : L.pcall 30 [n.av,(Aut.mk n.vars n.states z1 n.st z2 n.fi z3 n.rl).av] = some (.bool true) := by
 have g1 := xCY n.z1 z1 n.st h1
 have g2 := xCY n.z2 z2 n.fi h2
 have g3 := yBD n.z3 z3 n.rl h3
 rw [yJk,a30,xAf]
 simp (maxSteps := 30000000) (disch := first | assumption | omega | (simp only [WL,AV.isCell,xAn] <;> omega) | rfl | decide) only [WB,Nat.reduceAdd,Nat.reduceSub,AV.cells,AV.isCell,↓reduceIte,g1,xA0,xAx,g2,g3]
def cR (r : Rw) : Rw := ⟨r.l.length == 0,r.l⟩
def cS (s : Rws) : Rws := ⟨s.l.length == 0,s.l.map cR⟩
def cN (l : List Rws) : List Rws := l.map cS
theorem yDt (l : List Rw) : (l.map rwV).all xAX = true := by simp [rwV,xAX]
theorem xY1 (l : List Rws) : (l.map rwsV).all xAX = true := by simp [rwsV,xAX]
theorem yIs (r : Rw) (hl : r.l.length ≤ 100) : L.pcall 47 [rwV r] = some (rwV (cR r)) := yGD r.z r.l (by omega)
theorem yEW {z : Bool} {l : List Rw} (hl : l.length ≤ 100) (hr : ∀ r ∈ l,r.l.length ≤ 100) : ∀ e i G v,i + e = l.length → Lst 0 G v (((l.take i).map cR).map rwV) →
  ∃ v' G',L.loop xHu xSw ⟨xHv (.sl z l.length (l.map rwV)) v (.int .i64 (i : Nat)),G⟩ = some (.exit 0,⟨xHv (.sl z l.length (l.map rwV)) v' (.int .i64 (l.length : Nat)),G'⟩) ∧ Lst 0 G' v' ((l.map cR).map rwV) := by
 intro e
 induction e with
 | zero =>
  intro i G v h hv
  obtain rfl : i = l.length := by omega
  rw [List.take_length] at hv
  refine ⟨v,G,?_,hv⟩
  rw [xWp]
  simp (maxSteps := 30000000) (disch := first | assumption | omega | (simp only [WL,AV.isCell,xAa] <;> omega) | rfl | decide) only [xLR,WB,↓reduceIte,xLS]
 | succ e ih =>
  intro i G v h hv
  have hlt : (i : Int) < (l.length : Nat) := by omega
  have hi : i < l.length := by omega
  have hc := yIs _ (hr _ (xAl (a := r0) hi))
  have hlen : (((l.take i).map cR).map rwV).length = i := by simp; omega
  obtain ⟨v1,G1,p1,p2,p3⟩ := hv.push (rwV (cR (l.getD i r0))) (bytes := 24) (by rw [hlen]; omega) (by rw [hlen]; omega) (Nat.zero_le _)
  have e2 : ((l.take i).map cR).map rwV ++ [rwV (cR (l.getD i r0))] = ((l.take (i + 1)).map cR).map rwV := by
   have hg : l.getD i r0 = l[i] := by rw [List.getD_eq_getElem?_getD,List.getElem?_eq_getElem hi]; rfl
   rw [List.take_add_one,List.getElem?_eq_getElem hi,List.map_append,List.map_append,hg]; rfl
  rw [e2] at p2
  obtain ⟨v',G',q1,q2⟩ := ih (i + 1) G1 v1 (by omega) p2
  refine ⟨v',G',?_,q2⟩
  obtain ⟨za,na,ca,hA⟩ : ∃ z m c,rwV (l.getD i r0) = AV.sl z m c := ⟨_,_,_,rfl⟩
  obtain ⟨zb,nb,cb,hB⟩ : ∃ z m c,rwV (cR (l.getD i r0)) = AV.sl z m c := ⟨_,_,_,rfl⟩
  have g1 : List.take 1 (List.drop i (l.map rwV)) = [rwV (l.getD i r0)] := xQo hi
  rw [hA] at hc g1
  rw [hB] at hc p1
  have hml : (l.map rwV).length = l.length := List.length_map ..
  generalize l.map rwV = M at *
  rw [xWp]
  simp (maxSteps := 30000000) (disch := first | assumption | omega | (simp only [WL,AV.isCell,xAa] <;> omega) | rfl | decide) only [xLR,WB,hlt,↓reduceIte,g1,hc,xA0,xAx,AV.cells,AV.isCell,p1,xLS,q1]
theorem yIt (s : Rws) (hl : s.l.length ≤ 100) (hr : ∀ r ∈ s.l,r.l.length ≤ 100) : L.pcall 119 [rwsV s] = some (rwsV (cS s)) := by
 obtain ⟨v',G',q1,q2⟩ := yEW (z := s.z) hl hr s.l.length 0 [] (.sl true 0 []) (by omega) (Lst.nil _ _)
 have f := fun d => q2.dat (yDt _) d
 simp only [Int.natCast_zero] at q1
 have hlen : ((s.l.map cR).map rwV).length = s.l.length := by simp
 rw [hlen] at f
 have hb : xA3 L yHa [.sl s.z s.l.length (s.l.map rwV)] [] = some (v',G') := by
  rw [yHa]
  rcases q2 with ⟨_,rfl⟩ | ⟨id,rfl,_⟩
  ·simp (maxSteps := 30000000) (disch := first | assumption | omega | (simp only [WL,AV.isCell,xAa] <;> omega) | rfl | decide) only [WB,Nat.reduceSub,xLS,q1,↓reduceIte]
  ·simp (maxSteps := 30000000) (disch := first | assumption | omega | (simp only [WL,AV.isCell,xAa] <;> omega) | rfl | decide) only [WB,Nat.reduceSub,xLS,q1,List.length_map,↓reduceIte]
 have : rwsV (cS s) = .sl (s.l.length == 0) s.l.length ((s.l.map cR).map rwV) := by
  unfold rwsV cS; simp only [List.length_map]
 rw [this,yHT]
 exact xD1 hb (f 5)
theorem yEX {z : Bool} {l : List Rws} (hl : l.length ≤ 100) (hr : ∀ s ∈ l,s.l.length ≤ 100) (hx : ∀ s ∈ l,∀ r ∈ s.l,r.l.length ≤ 100) : ∀ e i G v,i + e = l.length → Lst 0 G v (((l.take i).map cS).map rwsV) →
  ∃ v' G',L.loop xOn yAx ⟨xOo (.sl z l.length (l.map rwsV)) v (.int .i64 (i : Nat)),G⟩ = some (.exit 0,⟨xOo (.sl z l.length (l.map rwsV)) v' (.int .i64 (l.length : Nat)),G'⟩) ∧ Lst 0 G' v' ((l.map cS).map rwsV) := by
 intro e
 induction e with
 | zero =>
  intro i G v h hv
  obtain rfl : i = l.length := by omega
  rw [List.take_length] at hv
  refine ⟨v,G,?_,hv⟩
  rw [yCs]
  simp (maxSteps := 30000000) (disch := first | assumption | omega | (simp only [WL,AV.isCell,xAa] <;> omega) | rfl | decide) only [xSq,WB,↓reduceIte,xSr]
 | succ e ih =>
  intro i G v h hv
  have hlt : (i : Int) < (l.length : Nat) := by omega
  have hi : i < l.length := by omega
  have hc := yIt _ (hr _ (xAl (a := rr0) hi)) (hx _ (xAl (a := rr0) hi))
  have hlen : (((l.take i).map cS).map rwsV).length = i := by simp; omega
  obtain ⟨v1,G1,p1,p2,p3⟩ := hv.push (rwsV (cS (l.getD i rr0))) (bytes := 24) (by rw [hlen]; omega) (by rw [hlen]; omega) (Nat.zero_le _)
  have e2 : ((l.take i).map cS).map rwsV ++ [rwsV (cS (l.getD i rr0))] = ((l.take (i + 1)).map cS).map rwsV := by
   have hg : l.getD i rr0 = l[i] := by rw [List.getD_eq_getElem?_getD,List.getElem?_eq_getElem hi]; rfl
   rw [List.take_add_one,List.getElem?_eq_getElem hi,List.map_append,List.map_append,hg]; rfl
  rw [e2] at p2
  obtain ⟨v',G',q1,q2⟩ := ih (i + 1) G1 v1 (by omega) p2
  refine ⟨v',G',?_,q2⟩
  obtain ⟨za,na,ca,hA⟩ : ∃ z m c,rwsV (l.getD i rr0) = AV.sl z m c := ⟨_,_,_,rfl⟩
  obtain ⟨zb,nb,cb,hB⟩ : ∃ z m c,rwsV (cS (l.getD i rr0)) = AV.sl z m c := ⟨_,_,_,rfl⟩
  have g1 : List.take 1 (List.drop i (l.map rwsV)) = [rwsV (l.getD i rr0)] := xCs hi
  rw [hA] at hc g1
  rw [hB] at hc p1
  have hml : (l.map rwsV).length = l.length := List.length_map ..
  generalize l.map rwsV = M at *
  rw [yCs]
  simp (maxSteps := 30000000) (disch := first | assumption | omega | (simp only [WL,AV.isCell,xAa] <;> omega) | rfl | decide) only [xSq,WB,hlt,↓reduceIte,g1,hc,xA0,xAx,AV.cells,AV.isCell,p1,xSr,q1]
theorem yIu (z : Bool) (l : List Rws) (hl : l.length ≤ 100) (hr : ∀ s ∈ l,s.l.length ≤ 100) (hx : ∀ s ∈ l,∀ r ∈ s.l,r.l.length ≤ 100) : L.pcall 97 [.sl z l.length (l.map rwsV)] = some (.sl (l.length == 0) l.length ((cN l).map rwsV)) := by
 obtain ⟨v',G',q1,q2⟩ := yEX (z := z) hl hr hx l.length 0 [] (.sl true 0 []) (by omega) (Lst.nil _ _)
 have f := fun d => q2.dat (xY1 _) d
 simp only [Int.natCast_zero] at q1
 have hlen : ((l.map cS).map rwsV).length = l.length := by simp
 rw [hlen] at f
 have hb : xA3 L a97 [.sl z l.length (l.map rwsV)] [] = some (v',G') := by
  rw [a97]
  rcases q2 with ⟨_,rfl⟩ | ⟨id,rfl,_⟩
  ·simp (maxSteps := 30000000) (disch := first | assumption | omega | (simp only [WL,AV.isCell,xAa] <;> omega) | rfl | decide) only [WB,Nat.reduceSub,xSr,q1,↓reduceIte]
  ·simp (maxSteps := 30000000) (disch := first | assumption | omega | (simp only [WL,AV.isCell,xAa] <;> omega) | rfl | decide) only [WB,Nat.reduceSub,xSr,q1,List.length_map,↓reduceIte]
 rw [yJK]
 exact xD1 hb (f 5)
theorem yGM (z : Bool) (l : List Bool) (hl : l.length ≤ 100) : L.pcall 98 [.sl z l.length (bools l)] = some (.sl (l.length == 0) l.length (bools l)) := by
 have hd := xLo l
 have fo := fun (d : Nat) (G : xAc) => (xEA (d := d) (G := G) hd).1
 have bo := fun (d : Nat) (G : xAc) => (xEA (d := d) (G := G) hd).2
 have htk : List.take l.length (bools l) = bools l := List.take_of_length_le (by rw [xAa]; omega)
 have hbl := xAa l
 generalize bools l = B at *
 generalize l.length = n at *
 have h1 : n * 1 ≤ 140737488355328 := by omega
 have h2 : n ≤ 140737488355328 := by omega
 rw [yJL,a98,xAf]
 simp (maxSteps := 30000000) (disch := first | assumption | omega | (simp only [WL,AV.isCell,xAa] <;> omega) | rfl | decide) only [WB,Nat.reduceSub,xES h1 h2,xAY,htk,fo]
def cD (d : Dfa) : Dfa := ⟨d.vars,d.empty,d.next.length == 0,cN d.next,d.fin.length == 0,d.fin⟩
theorem yGN (d : Dfa) (hS : Sm d) : L.pcall 51 [d.av] = some (cD d).av := by
 have h1 := yIu d.z d.next hS.n hS.r hS.x
 have h2 := yGM d.zf d.fin hS.f
 have hl : (cN d.next).length = d.next.length := List.length_map ..
 unfold cD Dfa.av Dfa.cells
 simp only [hl]
 generalize (cN d.next).map rwsV = N at *
 generalize d.next.map rwsV = M at *
 generalize bools d.fin = F at *
 rw [yJq,a51,xAf]
 simp (maxSteps := 30000000) (disch := first | assumption | omega | (simp only [WL,AV.isCell,xAa] <;> omega) | rfl | decide) only [WB,Nat.reduceSub,AV.cells,AV.isCell,↓reduceIte,h1,xA0,xAx,h2,xAj,Nat.reduceAdd,Nat.reduceLeDiff]
theorem yIv (d : Dfa) : Cn (cD d) := by
 refine ⟨fun h => ?_,fun h => ?_,fun s hs h => ?_,fun s hs r hr h => ?_⟩
 ·have : (d.next.length == 0) = true := h
  have : d.next = [] := List.eq_nil_of_length_eq_zero (by simpa using this)
  show cN d.next = []
  rw [this]; rfl
 ·have : (d.fin.length == 0) = true := h
  show d.fin = []
  exact List.eq_nil_of_length_eq_zero (by simpa using this)
 ·obtain ⟨s0,_,rfl⟩ := List.mem_map.1 hs
  have : (s0.l.length == 0) = true := h
  have : s0.l = [] := List.eq_nil_of_length_eq_zero (by simpa using this)
  show s0.l.map cR = []
  rw [this]; rfl
 ·obtain ⟨s0,_,rfl⟩ := List.mem_map.1 hs
  obtain ⟨r0',_,rfl⟩ := List.mem_map.1 hr
  have : (r0'.l.length == 0) = true := h
  show r0'.l = []
  exact List.eq_nil_of_length_eq_zero (by simpa using this)
def fR (r : Rw) : Rw := ⟨r.z,r.l.take 9⟩
def fS (s : Rws) : Rws := ⟨(s.l.take 13).length == 0,(s.l.take 13).map fR⟩
section
variable {d : Dfa} {B l : Nat} {s2 s3 : AV}
set_option maxHeartbeats 1000000 in
theorem yJZ (hl : l < d.next.length) (h0B : 0 < B) : ∀ e i G v,i + e = ((d.next.getD l rr0).l.take 13).length → G[0]? = some (.cells false false d.cells) → B ≤ G.length → Lst B G v ((((d.next.getD l rr0).l.take i).map fR).map rwV) →
  ∃ v' G',L.loop xMH xZS ⟨xMI (.ptr 0 0) s2 s3 (.int .i64 (l : Nat)) v (.int .i64 (i : Nat)),G⟩ = some (.exit 2,⟨xMI (.ptr 0 0) s2 s3 (.int .i64 (l : Nat)) v' (.int .i64 (((d.next.getD l rr0).l.take 13).length : Nat)),G'⟩) ∧ Lst B G' v' (((fS (d.next.getD l rr0)).l).map rwV) ∧ Kp B G G' := by
 have g0 : List.take 1 (List.drop l (d.next.map rwsV)) = [rwsV (d.next.getD l rr0)] := xCs hl
 have hml : (d.next.map rwsV).length = d.next.length := List.length_map ..
 generalize hss : d.next.getD l rr0 = s at *
 rw [xZa] at g0
 intro e
 induction e with
 | zero =>
  intro i G v h h0 hG hv
  have hi : i = (s.l.take 13).length := by omega
  have e1 : s.l.take i = s.l.take 13 := by
   rw [hi,List.length_take]
   rcases Nat.le_total 13 s.l.length with q | q
   ·rw [Nat.min_eq_left q]
   ·rw [Nat.min_eq_right q,List.take_of_length_le (Nat.le_refl _),List.take_of_length_le q]
  rw [e1] at hv
  rw [hi]
  refine ⟨v,G,?_,hv,Kp.refl _ _⟩
  unfold Dfa.cells at h0
  rw [List.length_take] at *
  rcases Nat.lt_or_ge s.l.length 13 with q | q
  ·rw [Nat.min_eq_right (by omega)]
   rw [xMJ]
   simp (maxSteps := 30000000) (disch := first | assumption | omega | (simp only [WL,AV.isCell,xAa] <;> omega) | rfl | decide) only [xGT,WB,h0,g0,↓reduceIte,xJx]
  ·rw [Nat.min_eq_left q]
   have q1 : (13 : Int) < (s.l.length : Nat) ∨ ¬ (13 : Int) < (s.l.length : Nat) := by omega
   rcases q1 with q1 | q1
   ·rw [xMJ]
    simp (maxSteps := 30000000) (disch := first | assumption | omega | (simp only [WL,AV.isCell,xAa] <;> omega) | rfl | decide) only [xGT,WB,h0,g0,q1,↓reduceIte,xJx]
   ·rw [xMJ]
    simp (maxSteps := 30000000) (disch := first | assumption | omega | (simp only [WL,AV.isCell,xAa] <;> omega) | rfl | decide) only [xGT,WB,h0,g0,q1,↓reduceIte,xJx]
 | succ e ih =>
  intro i G v h h0 hG hv
  rw [List.length_take] at h
  have hi : i < s.l.length := by omega
  have hi13 : (i : Int) < 13 := by omega
  have hlt : (i : Int) < (s.l.length : Nat) := by omega
  have hlen : (((s.l.take i).map fR).map rwV).length = i := by simp; omega
  obtain ⟨v1,G1,p1,p2,p3⟩ := hv.push (rwV (fR (s.l.getD i r0))) (bytes := 24) (by rw [hlen]; omega) (by rw [hlen]; omega) hG
  have e2 : ((s.l.take i).map fR).map rwV ++ [rwV (fR (s.l.getD i r0))] = ((s.l.take (i + 1)).map fR).map rwV := by
   have hg : s.l.getD i r0 = s.l[i] := by rw [List.getD_eq_getElem?_getD,List.getElem?_eq_getElem hi]; rfl
   rw [List.take_add_one,List.getElem?_eq_getElem hi,List.map_append,List.map_append,hg]; rfl
  rw [e2] at p2
  obtain ⟨v',G',q1,q2,q3⟩ := ih (i + 1) G1 v1 (by rw [List.length_take]; omega) (p3.get h0B h0) (by have := p3.1; omega) p2
  refine ⟨v',G',?_,q2,p3.trans q3⟩
  have g1 : List.take 1 (List.drop i (s.l.map rwV)) = [rwV (s.l.getD i r0)] := xQo hi
  have hmr : (s.l.map rwV).length = s.l.length := List.length_map ..
  generalize s.l.getD i r0 = r at *
  rw [xY9] at g1
  have ef : rwV (fR r) = .sl r.z (min 9 r.l.length) (ints (r.l.take 9)) := by unfold fR rwV; simp only [List.length_take]
  rw [ef] at p1
  unfold Dfa.cells at h0
  generalize (s.l.take 13).length = n13 at *
  rcases Nat.lt_or_ge r.l.length 9 with q | q
  ·have k1 : min 9 r.l.length = r.l.length := Nat.min_eq_right (by omega)
   have k2 : r.l.take 9 = r.l := List.take_of_length_le (by omega)
   rw [k1,k2] at p1
   have k3 : min ((r.l.length : Nat) : Int) 9 = ((r.l.length : Nat) : Int) := by omega
   have htk : List.take r.l.length r.l = r.l := List.take_of_length_le (Nat.le_refl _)
   rw [xMJ]
   simp (maxSteps := 30000000) (disch := first | assumption | omega | (simp only [WL,AV.isCell,xAa] <;> omega) | rfl | decide) only [xGT,WB,h0,g0,hlt,↓reduceIte,hi13,g1,xAj,k3,W2,htk,AV.cells,AV.isCell,p1,xJx,q1]
  ·have k1 : min 9 r.l.length = 9 := Nat.min_eq_left q
   rw [k1] at p1
   have k3 : min ((r.l.length : Nat) : Int) 9 = 9 := by omega
   rw [xMJ]
   simp (maxSteps := 30000000) (disch := first | assumption | omega | (simp only [WL,AV.isCell,xAa] <;> omega) | rfl | decide) only [xGT,WB,h0,g0,hlt,↓reduceIte,hi13,g1,xAj,k3,Int.reduceToNat,W2,AV.cells,AV.isCell,p1,xJx,q1]
end
theorem xVc (s : Rws) : rwsV (fS s) = .sl (((fS s).l.map rwV).length == 0) ((fS s).l.map rwV).length ((fS s).l.map rwV) := by
 unfold rwsV fS; simp
section
variable {d : Dfa} {B : Nat} {s2 : AV}
set_option maxHeartbeats 1000000 in
theorem yJ0 (h0B : 0 < B) : ∀ e i G v,i + e = (d.next.take 66).length → G[0]? = some (.cells false false d.cells) → B ≤ G.length → Lst B G v (((d.next.take i).map fS).map rwsV) →
  ∃ v' G',L.loop xMK xZT ⟨xML (.ptr 0 0) s2 v (.int .i64 (i : Nat)),G⟩ = some (.exit 0,⟨xML (.ptr 0 0) s2 v' (.int .i64 ((d.next.take 66).length : Nat)),G'⟩) ∧ Lst B G' v' (((d.next.take 66).map fS).map rwsV) ∧ Kp B G G' := by
 intro e
 induction e with
 | zero =>
  intro i G v h h0 hG hv
  have hi : i = (d.next.take 66).length := by omega
  have e1 : d.next.take i = d.next.take 66 := by
   rw [hi,List.length_take]
   rcases Nat.le_total 66 d.next.length with q | q
   ·rw [Nat.min_eq_left q]
   ·rw [Nat.min_eq_right q,List.take_of_length_le (Nat.le_refl _),List.take_of_length_le q]
  rw [e1] at hv
  rw [hi]
  refine ⟨v,G,?_,hv,Kp.refl _ _⟩
  unfold Dfa.cells at h0
  rw [List.length_take] at *
  rcases Nat.lt_or_ge d.next.length 66 with q | q
  ·rw [Nat.min_eq_right (by omega)]
   rw [xRG]
   simp (maxSteps := 30000000) (disch := first | assumption | omega | (simp only [WL,AV.isCell,xAa] <;> omega) | rfl | decide) only [xJy,WB,h0,↓reduceIte,xJz]
  ·rw [Nat.min_eq_left q]
   have q1 : (66 : Int) < (d.next.length : Nat) ∨ ¬ (66 : Int) < (d.next.length : Nat) := by omega
   rcases q1 with q1 | q1
   ·rw [xRG]
    simp (maxSteps := 30000000) (disch := first | assumption | omega | (simp only [WL,AV.isCell,xAa] <;> omega) | rfl | decide) only [xJy,WB,h0,q1,↓reduceIte,xJz]
   ·rw [xRG]
    simp (maxSteps := 30000000) (disch := first | assumption | omega | (simp only [WL,AV.isCell,xAa] <;> omega) | rfl | decide) only [xJy,WB,h0,q1,↓reduceIte,xJz]
 | succ e ih =>
  intro i G v h h0 hG hv
  rw [List.length_take] at h
  have hi : i < d.next.length := by omega
  have hi66 : (i : Int) < 66 := by omega
  have hlt : (i : Int) < (d.next.length : Nat) := by omega
  have hm := xAl (a := rr0) hi
  have hlen : (((d.next.take i).map fS).map rwsV).length = i := by simp; omega
  obtain ⟨v1,G1,q1,q2,q3⟩ := yJZ (d := d) (s2 := s2) (s3 := v) (B := G.length) hi (by omega) _ 0 G (.sl true 0 []) (Nat.zero_add _) h0 (Nat.le_refl _) (Lst.nil _ _)
  obtain ⟨f1,G2,f2,f3⟩ := q2.data (yDt _)
  rw [← xVc] at f1
  have k2 : Kp G.length G G2 := q3.trans f3
  obtain ⟨v2,G3,p1,p2,p3⟩ := (hv.keep k2 (Nat.le_refl _)).push (rwsV (fS (d.next.getD i rr0))) (bytes := 24) (by rw [hlen]; omega) (by rw [hlen]; omega) (by have := k2.1; omega)
  have e2 : ((d.next.take i).map fS).map rwsV ++ [rwsV (fS (d.next.getD i rr0))] = ((d.next.take (i + 1)).map fS).map rwsV := by
   have hg : d.next.getD i rr0 = d.next[i] := by rw [List.getD_eq_getElem?_getD,List.getElem?_eq_getElem hi]; rfl
   rw [List.take_add_one,List.getElem?_eq_getElem hi,List.map_append,List.map_append,hg]; rfl
  rw [e2] at p2
  have k3 := (k2.low hG).trans p3
  obtain ⟨v',G',r1,r2,r3⟩ := ih (i + 1) G3 v2 (by rw [List.length_take]; omega) (k3.get h0B h0) (by have := k3.1; omega) p2
  refine ⟨v',G',?_,r2,k3.trans r3⟩
  obtain ⟨za,na,ca,hA⟩ : ∃ z m c,rwsV (fS (d.next.getD i rr0)) = AV.sl z m c := ⟨_,_,_,rfl⟩
  rw [hA] at f1 p1
  simp only [Int.natCast_zero] at q1
  generalize ((d.next.getD i rr0).l.take 13).length = n13 at *
  generalize (d.next.take 66).length = n66 at *
  have h0' := h0
  unfold Dfa.cells at h0'
  rw [xRG]
  simp (maxSteps := 30000000) (disch := first | assumption | omega | (simp only [WL,AV.isCell,xAa] <;> omega) | rfl | decide) only [xJy,WB,h0',hlt,↓reduceIte,hi66,xJx,q1,f1,f2,AV.cells,AV.isCell,p1,xJz,r1]
end
def fD (d : Dfa) : Dfa := ⟨d.vars,d.empty,(d.next.take 66).length == 0,(d.next.take 66).map fS,d.zf,d.fin.take 66⟩
theorem yGO (d : Dfa) : Sm (fD d) := by
 refine ⟨?_,?_,fun s hs => ?_,fun s hs r hr => ?_⟩
 ·show ((d.next.take 66).map fS).length ≤ 100
  rw [List.length_map,List.length_take]; omega
 ·show (d.fin.take 66).length ≤ 100
  rw [List.length_take]; omega
 ·obtain ⟨s0,_,rfl⟩ := List.mem_map.1 hs
  show ((s0.l.take 13).map fR).length ≤ 100
  rw [List.length_map,List.length_take]; omega
 ·obtain ⟨s0,_,rfl⟩ := List.mem_map.1 hs
  obtain ⟨r1,_,rfl⟩ := List.mem_map.1 hr
  show (r1.l.take 9).length ≤ 100
  rw [List.length_take]; omega
set_option maxHeartbeats 1000000 in
theorem yIw (d : Dfa) : L.pcall 12 [d.av] = some (cD (fD d)).av := by
 obtain ⟨v',G',q1,q2,q3⟩ := yJ0 (d := d) (s2 := .ptr 1 0) (B := 2) (by omega) _ 0 [.cells false false d.cells,.cells false false [.int .i64 0,.int .i64 0,.sl true 0 [],.sl true 0 []]] (.sl true 0 []) (Nat.zero_add _) rfl (by simp) (Lst.nil _ _)
 have g0 : G'[0]? = some (.cells false false d.cells) := (q3.2 0 (by omega)).trans rfl
 have g1 : G'[1]? = some (.cells false false [.int .i64 0,.int .i64 0,.sl true 0 [],.sl true 0 []]) := (q3.2 1 (by omega)).trans rfl
 have hc := yGN (fD d) (yGO d)
 have hlN : ((d.next.take 66).map fS).length = (d.next.take 66).length := List.length_map ..
 have hl0 := (List.getElem?_eq_some_iff.1 g0).1
 have hl1 := (List.getElem?_eq_some_iff.1 g1).1
 have s0 := fun X : Blk => (List.getElem?_set_self (l := G') (a := X) hl0)
 have s1 : ∀ X : Blk,(G'.set 0 X)[1]? = _ := fun X => (List.getElem?_set_ne (by omega)).trans g1
 have ss := fun X Y : Blk => (List.set_set (l := G') (i := 0) (a := X) (b := Y))
 have hk : ∃ k : Nat,min 66 d.fin.length = k ∧ min ((d.fin.length : Nat) : Int) 66 = (k : Int) ∧ k ≤ d.fin.length := ⟨min 66 d.fin.length,rfl,by omega,by omega⟩
 obtain ⟨k,k1,k2,k3⟩ := hk
 have kt : (bools d.fin).take k = bools (d.fin.take 66) := by
  unfold bools
  rw [← List.map_take]
  rw [← k1]
  rcases Nat.le_total 66 d.fin.length with q | q
  ·rw [Nat.min_eq_left q]
  ·rw [Nat.min_eq_right q,List.take_of_length_le (Nat.le_refl _),List.take_of_length_le q]
 have kl : (d.fin.take 66).length = k := by rw [List.length_take,k1]
 have hbl := xAa d.fin
 have hdat := xY1 ((d.next.take 66).map fS)
 have fo := fun (e : Nat) (G : xAc) => (xEA (d := e) (G := G) hdat).1
 have bo := fun (e : Nat) (G : xAc) => (xEA (d := e) (G := G) hdat).2
 unfold Dfa.av at hc ⊢
 unfold fD at hc
 unfold Dfa.cells at hc q1 g0 ⊢
 simp only [hlN,kl] at hc
 simp only [Int.natCast_zero] at q1
 rcases q2 with ⟨e1,rfl⟩ | ⟨id,rfl,hid,hge,hne⟩
 ·have e3 : (d.next.take 66).length = 0 := by have := congrArg List.length e1; simpa using this
  rw [e3,e1,show ((0 : Nat) == 0) = true from rfl] at hc
  have sb := fun X Y : Blk => List.getElem?_set_self (l := G'.set 0 X) (i := 1) (a := Y) (by rw [List.length_set]; omega)
  rw [yII,a12,xAf]
  simp (maxSteps := 30000000) (disch := first | assumption | omega | (simp only [WL,AV.isCell,xAa] <;> omega) | rfl | decide) only [WB,Nat.reduceSub,AV.cells,AV.isCell,↓reduceIte,xJz,q1,g0,Nat.reduceAdd,s0,k2,kt,ss,hc,xA0,xAx,s1,sb]
  all_goals first | rfl | (unfold fD; rw [e3]; rfl)
 ·have sid : ∀ X : Blk,(G'.set 0 X)[id]? = _ := fun X => (List.getElem?_set_ne (by omega)).trans hid
  have hml : (((d.next.take 66).map fS).map rwsV).length = (d.next.take 66).length := by rw [List.length_map,hlN]
  have hz : ((d.next.take 66).length == 0) = false := by
   rw [beq_eq_false_iff_ne]; intro q; exact hne (List.eq_nil_of_length_eq_zero (by rw [hml]; exact q))
  rw [hz] at hc
  have hz' := hz
  rw [hml] at q1
  have gm := fun X : Blk => (List.getElem?_modify_ne xBG (G'.set 0 X) (show id ≠ 1 by omega)).trans (s1 X)
  generalize ((d.next.take 66).map fS).map rwsV = M at *
  generalize (d.next.take 66).length = n66 at *
  have htk : List.take n66 M = M := List.take_of_length_le (by omega)
  have gl := fun X Y : Blk => List.getElem?_set_self (l := (G'.set 0 X).modify id xBG) (i := 1) (a := Y) (List.getElem?_eq_some_iff.1 (gm X)).1
  rw [yII,a12,xAf]
  simp (maxSteps := 30000000) (disch := first | assumption | omega | (simp only [WL,AV.isCell,xAa] <;> omega) | rfl | decide) only [WB,Nat.reduceSub,AV.cells,AV.isCell,↓reduceIte,xJz,q1,g0,Nat.reduceAdd,s0,k2,kt,ss,xAY,sid,htk,fo,hc,xA0,xAx,xHR,bo,gm,gl]
  unfold fD
  first | rw [hz] | skip
  rfl
theorem xY2 (B : xAc) : OI B (.sl true 0 []) (.sl true 0 []) := ⟨.inl rfl,fun d _ => by cases d <;> rfl,_,_,_,rfl⟩
theorem yDu (B : xAc) : OD B (.sl true 0 []) (.sl true 0 []) (.sl true 0 []) (.sl true 0 []) := ⟨.inl rfl,.inl rfl,fun d _ => by cases d <;> rfl,fun d _ => by cases d <;> rfl,⟨_,_,_,rfl⟩,_,_,_,rfl⟩
theorem yDv (B : xAc) : ON B (.sl true 0 []) (.sl true 0 []) (.sl true 0 []) (.sl true 0 []) (.sl true 0 []) (.sl true 0 []) :=
 ⟨.inl rfl,.inl rfl,.inl rfl,fun d _ => by cases d <;> rfl,fun d _ => by cases d <;> rfl,fun d _ => by cases d <;> rfl,⟨_,_,_,rfl⟩,⟨_,_,_,rfl⟩,_,_,_,rfl⟩
theorem xY3 {B : xAc} {id m : Nat} {l : List Int} (hg : B[id]? = some (.cells false false (ints l))) (hm : m ≤ l.length) (hs : l.length < 1099511627776) : OI B (.own false id 0 m 1) (.sl false m (ints (l.take m))) := by
 refine ⟨.inr ⟨id,m,l,rfl,hg,hm,hs⟩,fun d hd => ?_,_,_,_,rfl⟩
 obtain ⟨e,rfl⟩ : ∃ e,d = e + 1 := ⟨d - 1,by omega⟩
 have hle : 0 + m * 1 ≤ (ints l).length := by rw [xAk]; omega
 rw [show frz (e + 1) B (.own false id 0 m 1) = _ from rfl]
 simp only [frz,hg]
 rw [if_pos hle,List.drop_zero,Nat.mul_one,xFj,xGK]; rfl
theorem yEY : L.pcall 20 [.sl true 0 [],.sl true 0 []] = some (.bool true) := xCY true true [] (by simp)
theorem yGP : L.pcall 29 [.agg [.int .i64 0,.int .i64 0,.sl true 0 [],.sl true 0 []],.agg [.int .i64 0,.int .i64 0,.sl true 0 [],.sl true 0 []]] = some (.bool true) := xZd (d := ⟨0,0,true,[],true,[]⟩) ⟨by simp,by simp,by simp,by simp⟩
theorem yGQ : L.pcall 30 [.agg [.int .i64 0,.int .i64 0,.sl true 0 [],.sl true 0 [],.sl true 0 []],.agg [.int .i64 0,.int .i64 0,.sl true 0 [],.sl true 0 [],.sl true 0 []]] = some (.bool true) := xUm ⟨0,0,true,[],true,[],true,[]⟩ (by simp) (by simp) (by simp) true true true
structure P16 (a : AV) (z : Bool) (t : List Lf) : Prop where
 h : ∃ v m e B,xAL L 16 [a,tw z t] = some (.tup [v,.int .i64 e],B) ∧ L.pcall 17 [a,tw z t] = some (.tup [m,.int .i64 e]) ∧ OI B v m ∧ L.pcall 20 [m,m] = some (.bool true)
 k : ∃ b e,L.pcall 18 [a,tw z t] = some (.tup [.bool b,.int .i64 e]) ∧ L.pcall 19 [a,tw z t] = some (.tup [.bool b,.int .i64 e])
structure PD (f g : Nat) (a : AV) : Prop where
 h : ∃ a1 a2 vN vF mN mF e B,xAL L f [a] = some (.tup [.agg [.int .i64 a1,.int .i64 a2,vN,vF],.int .i64 e],B) ∧ L.pcall g [a] = some (.tup [.agg [.int .i64 a1,.int .i64 a2,mN,mF],.int .i64 e]) ∧ OD B vN vF mN mF ∧
  L.pcall 29 [.agg [.int .i64 a1,.int .i64 a2,mN,mF],.agg [.int .i64 a1,.int .i64 a2,mN,mF]] = some (.bool true)
structure P25 (a : AV) : Prop where
 h : ∃ v m e B,xAL L 25 [a] = some (.tup [v,.int .i64 e],B) ∧ L.pcall 26 [a] = some (.tup [m,.int .i64 e]) ∧ OI B v m ∧ L.pcall 20 [m,m] = some (.bool true)
structure P27 (a : AV) : Prop where
 h : ∃ a1 a2 uE uF uR kE kF kR e B,xAL L 27 [a] = some (.tup [.agg [.int .i64 a1,.int .i64 a2,uE,uF,uR],.int .i64 e],B) ∧ L.pcall 28 [a] = some (.tup [.agg [.int .i64 a1,.int .i64 a2,kE,kF,kR],.int .i64 e]) ∧ ON B uE uF uR kE kF kR ∧
  L.pcall 30 [.agg [.int .i64 a1,.int .i64 a2,kE,kF,kR],.agg [.int .i64 a1,.int .i64 a2,kE,kF,kR]] = some (.bool true)
section
variable {A : Dfa} {D : Da}
theorem dfa_same' (hV : Va D) : L.pcall 29 [D.av,D.av] = some (.bool true) := by
 have := xZd (yDD hV)
 rwa [yDC] at this
theorem yDw {i k : Nat} {B : xAc} (h : DOwn D i k B) : OD B (.own false i 0 D.next.length 1) (.own false k 0 D.fin.length 1) (.sl false D.next.length (D.next.map rowsD)) (.sl false D.fin.length (bools D.fin)) :=
 ⟨h.tN,h.tF,h.fN,h.fF,⟨_,_,_,rfl⟩,_,_,_,rfl⟩
theorem yEZ (hS : Sm A) (he : xB6 A ≠ 0) (z : Bool) (t : List Lf) : P16 A.av z t := by
 obtain ⟨B,h⟩ := xZn hS he z t
 exact ⟨⟨_,_,_,B,h,xQr hS he z t,xY2 B,yEY⟩,_,_,xZo hS he z t,xYZ hS he z t⟩
theorem yE0 (hS : Sm A) (he : xB6 A ≠ 0) : PD 21 22 A.av := by
 obtain ⟨B,h⟩ := xZj hS he
 exact ⟨_,_,_,_,_,_,_,B,h,xZE hS he,yDu B,yGP⟩
theorem yE1 (hS : Sm A) (he : xB6 A ≠ 0) : PD 23 24 A.av := by
 obtain ⟨B,h⟩ := xZk hS he
 exact ⟨_,_,_,_,_,_,_,B,h,xZF hS he,yDu B,yGP⟩
theorem yE2 (hS : Sm A) (he : xB6 A ≠ 0) : P25 A.av := by
 obtain ⟨B,h⟩ := xZl hS he
 exact ⟨_,_,_,B,h,xZH hS he,xY2 B,yEY⟩
theorem yE3 (hS : Sm A) (he : xB6 A ≠ 0) : P27 A.av := by
 obtain ⟨B,h⟩ := xZm hS he
 exact ⟨_,_,_,_,_,_,_,_,_,B,h,xY0 hS he,yDv B,yGQ⟩
theorem yGR (hV : Va D) (z : Bool) (t : List Lf) (hl : t.length < 1099511627776) (hx : ∀ e ∈ t,e.x < 256) : P16 D.av z t := by
 by_cases he : xCJ t D.vars.toNat = 0
 ·obtain ⟨T,rfl,q2,q3⟩ := (xFi hV.v0).1 he
  obtain ⟨B,h1,h2⟩ := yGB hV z q2 q3
  have hsl := xCH D T
  have hs := xCY false false (stL D T) (by omega)
  have hO := xY3 (m := T.size) h2 (by rw [List.length_append]; omega) (by rw [List.length_append,List.length_cons,List.length_nil]; omega)
  rw [List.take_left' hsl] at hO
  unfold iw at hs
  rw [hsl] at hs
  exact ⟨⟨_,_,_,B,h1,xUl hV z q2 q3,hO,hs⟩,_,_,xQw hV z q2 q3,yBB hV z q2 q3⟩
 ·obtain ⟨B,h1⟩ := xVj hV z t hl hx he
  exact ⟨⟨_,_,_,B,h1,xQq hV z t hl hx he,xY2 B,yEY⟩,_,_,xMC hV z t hl hx he,xYY hV z t hl hx he⟩
theorem yGS (hV : Va D) : PD 21 22 D.av := by
 obtain ⟨i,k,B,h1,h2⟩ := xRx hV
 exact ⟨_,_,_,_,_,_,_,B,h1,yB2 hV,yDw h2,dfa_same' (xC3 hV)⟩
theorem yGT (hV : Va D) : PD 23 24 D.av := by
 obtain ⟨c,F,m,hS,hO,hF,i,k,B,h1,h2⟩ := xRr hV
 have hR := xC3 hV
 have hq : yG6 (xDn D) = yBP (xDn D) c F m := yGX hR hS hO hF
 have h24 := yB3 hV
 rw [hq] at h24
 have hm : Va (yBP (xDn D) c F m) := by rw [← hq]; exact xLP hR
 exact ⟨_,_,_,_,_,_,_,B,h1,h24,yDw h2,dfa_same' (xC3 hm)⟩
theorem yGU (hV : Va D) : P25 D.av := by
 obtain ⟨c,m,b,B,hS,h1,h2⟩ := xVp hV
 have hc := xZI hV hS
 have h26 := yB4 hV
 rw [hc] at h26
 have hl := (xRq hS).1
 have n64 := hV.n64
 have hs := xCY false false c (by omega)
 have hO := xY3 (m := D.next.length) h2 (by omega) (by omega)
 rw [List.take_of_length_le (by omega)] at hO
 unfold iw at hs h26
 rw [hl] at hs h26
 exact ⟨_,_,_,B,h1,h26,hO,hs⟩
theorem yGV (hV : Va D) : P27 D.av := by
 by_cases hn : D.next.length * (D.next.length * two D.vars) ≤ 512
 ·obtain ⟨vF,vR,B,h1,h2⟩ := yBS hV hn
  have hfl := xMt D D.next.length
  have hrl := xMs D D.next.length
  have n64 := hV.n64
  have hE := xY3 (m := 1) h2.tE (by simp) (by simp)
  exact ⟨_,_,_,_,_,_,_,_,_,B,h1,yBC hV hn,⟨.inr ⟨2,[D.empty],rfl,h2.tE,by simp⟩,h2.tF,h2.tR,hE.f,h2.fF,h2.fR,⟨_,_,_,rfl⟩,⟨_,_,_,rfl⟩,_,_,_,rfl⟩,
   xUm (toN D) (by simp [toN]) (by show (fiL D D.next.length).length < _; omega) (by show (rlL D D.next.length).length < _; omega) _ _ _⟩
 ·obtain ⟨B,h1⟩ := xVw hV (by omega)
  exact ⟨_,_,_,_,_,_,_,_,_,B,h1,xVm hV (by omega),yDv B,yGQ⟩
end
end Go.Abs.Det
