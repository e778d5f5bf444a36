/- short of one event; the formula's lists overwritten. -/
import Derived.Test.YtdheandekcpieaaDoorAbsBun
import Derived.Test.YtdheandekcpieaaDoorAMI
import Derived.Test.YtdheandekcpieaaDoorAMG
import Derived.Test.YtdheandekcpieaaDoorAbsWalk4
namespace Go.Abs.Events
open Go Go.Abs
set_option maxHeartbeats 16000000
set_option linter.unusedSimpArgs false
set_option linter.unusedVariables false
def shE (e : Ev) : Ev := { e with z := (xED e.args).isEmpty,args := xED e.args }
section
variable {l : List Ev} {z : Bool}
theorem xRh (hl : 0 < l.length) : L.pcall 21 [.sl z l.length (evs l),.int .i64 1] = some (.sl false 1 (evC (shE (l.getD 0 ev0)))) := by
 have hat := xLd hl
 rw [Nat.zero_mul,List.drop_zero] at hat
 generalize hN : l.getD 0 ev0 = e at *
 have hev : xA7 e.z e.args = .sl e.z e.args.length (xAv e.args) := rfl
 have h49 := xVU e.z (l := xED e.args) (by simp [xED]; omega)
 have hcl : (xED e.args).length = min e.args.length 4 := by simp [xED,Nat.min_comm]
 have hmin : min ((e.args.length : Nat) : Int) 4 = ((xED e.args).length : Nat) := by rw [hcl]; omega
 have hbd : xBn e.args.length none (some (.int .i64 ((xED e.args).length : Nat))) none = some (0,(xED e.args).length) := by
  rw [xFy (Int.natCast_nonneg _) (by rw [hcl]; omega)]
  simp
 have htk : xAv (List.take (xED e.args).length e.args) = xAv (xED e.args) := by
  congr 1
  rw [hcl]
  unfold xED
  by_cases c : e.args.length ≤ 4
  ·rw [Nat.min_eq_left c,List.take_of_length_le (Nat.le_refl _),List.take_of_length_le c]
  ·rw [Nat.min_eq_right (by omega)]
 have hlI : (0 : Int) < (l.length : Nat) := by omega
 have hC : evC (shE e) = [.int .i64 e.name,.sl ((xED e.args).length == 0) (xED e.args).length (xAv (xED e.args))] := by
  unfold evC xA7
  rw [isE]; rfl
 rw [hC]
 unfold evC at hat
 rw [hev] at hat
 generalize xED e.args = l4 at *
 rw [yFT,a21,xAb]
 by_cases c1 : (1 : Int) < (l.length : Nat)
 ·simp (maxSteps := 30000000) (disch := first|exact D6|fail) only [WB,Nat.reduceAdd,Nat.reduceSub,xYT,xYU,xQW,hlI,↓reduceIte,Int.reduceLT,Nat.reduceMul,hat,AV.cells,AV.isCell,hmin,hbd,W2,htk,WP,h49,xB6,xEY,xCL,Nat.reduceBEq,c1,xAU]
 ·simp (maxSteps := 30000000) (disch := first|exact D6|fail) only [WB,Nat.reduceAdd,Nat.reduceSub,xYT,xYU,xQW,hlI,↓reduceIte,Int.reduceLT,Nat.reduceMul,hat,AV.cells,AV.isCell,hmin,hbd,W2,htk,WP,h49,xB6,xEY,xCL,Nat.reduceBEq,c1,xAU]
end
section
variable {G : Heap} {o : Nat} {l : List Int}
def ov7 (l : List Int) (i : Nat) : List Int := List.replicate i (-77) ++ l.drop i
theorem yAi {l : List Int} {i : Nat} (h : i ≤ l.length) : (ov7 l i).length = l.length := by simp [ov7]; omega
theorem yAj {l : List Int} {i : Nat} (h : i < l.length) : (ov7 l i).set i (-77) = ov7 l (i + 1) := by
 unfold ov7
 rw [List.set_append_right _ _ (by simp),List.length_replicate,Nat.sub_self,List.drop_eq_getElem_cons h,List.set_cons_zero,List.replicate_succ',List.append_assoc]
 rfl
theorem yCz (hl : l.length ≤ 100000) : ∀ k i,i + k = l.length → ∀ G : Heap,G[o]? = some (.cells false (l.length == 0) (xAv (ov7 l i))) →
  L.loop xKm xUH ⟨xKn (.own (l.length == 0) o 0 l.length 1) (.int .i64 (i : Nat)),G⟩ = some (.exit 0,⟨xKn (.own (l.length == 0) o 0 l.length 1) (.int .i64 (l.length : Nat)),G.set o (.cells false (l.length == 0) (xAv (ov7 l l.length)))⟩) := by
 intro k
 induction k with
 | zero =>
  intro i hi G go
  obtain rfl : i = l.length := by omega
  have hset : G.set o (.cells false (l.length == 0) (xAv (ov7 l l.length))) = G := by
   obtain ⟨hk,hx⟩ := List.getElem?_eq_some_iff.1 go
   rw [← hx,List.set_getElem_self]
  rw [hset,xYR]
  simp (maxSteps := 30000000) (disch := first|exact D6|fail) only [xQU,Int.reduceNeg,WB,↓reduceIte,xUI]
 | succ k ih =>
  intro i hi G go
  have hlt : i < l.length := by omega
  have hltI : ((i : Nat) : Int) < (l.length : Nat) := by omega
  have hz : (l.length == 0) = false := by rw [beq_eq_false_iff_ne]; omega
  have lo := xAQ go
  have hlen := yAi (l := l) (i := i) (by omega)
  have hs := yAj hlt
  have e1 := ih (i + 1) (by omega) (G.set o (.cells false (l.length == 0) (xAv (ov7 l (i + 1))))) (xDH lo)
  rw [List.set_set] at e1
  rw [hz] at go e1 ⊢
  generalize ov7 l (i + 1) = l2 at *
  generalize ov7 l i = l1 at *
  have hput : xAv (List.take i l1) ++ (AV.int .i64 (-77) :: xAv (List.drop (i + 1) l1)) = xAv l2 := by rw [← hs]; exact xWf (by omega)
  rw [xYR]
  simp (maxSteps := 30000000) (disch := first|exact D6|fail) only [xQU,Int.reduceNeg,WB,hltI,↓reduceIte,AV.cells,go,W2,hput,xUI,e1]
theorem yCA (go : G[o]? = some (xOr l)) (hl : l.length ≤ 100000) : L.icall (.func 16 []) [xSA o l] G = some (.tup [],G.set o (.cells false (l.length == 0) (xAv (ov7 l l.length)))) := by
 have e1 := yCz (o := o) hl l.length 0 (by omega) G (by rw [show ov7 l 0 = l by simp [ov7]]; exact go)
 have e1' : L.loop xKm xUH ⟨xKn (.own (l.length == 0) o 0 l.length 1) (.int .i64 0),G⟩ = _ := e1
 unfold xSA
 rw [yFR,a16,xAm]
 simp (maxSteps := 30000000) (disch := first|exact D6|fail) only [WB,Nat.reduceSub,xUI,e1',↓reduceIte]
end
section
variable {o : Nat} {lo : List (Nd × Nat)} {s0 s1 s6 : AV}
set_option maxRecDepth 100000 in
theorem yCB (hN : lo.length ≤ 1000) (hal : ∀ p ∈ lo,p.1.args.length ≤ 1000) : ∀ k i,i + k = lo.length → ∀ (G : Heap) (Z : List AV),Z.length = i * 6 → G[o]? = some (.cells false false (Z ++ ons xAG (lo.drop i))) → (∀ p ∈ lo.drop i,p.2 ≠ o ∧ G[p.2]? = some (xOr p.1.args)) → ((lo.drop i).map (·.2)).Nodup →
  ∃ G' : Heap,L.loop xSk yCg ⟨xSl s0 s1 (.own false o 0 lo.length 6) s6 (.int .i64 (i : Nat)),G⟩ = some (.exit 0,⟨xSl s0 s1 (.own false o 0 lo.length 6) s6 (.int .i64 (lo.length : Nat)),G'⟩) ∧
   ∀ b,b ≠ o → (∀ p ∈ lo,b ≠ p.2) → G'[b]? = G[b]? := by
 intro k
 induction k with
 | zero =>
  intro i hi G Z hZ go hb hnd
  obtain rfl : i = lo.length := by omega
  refine ⟨G,?_,fun _ _ _ => rfl⟩
  rw [yCh]
  simp (maxSteps := 30000000) (disch := first|exact D6|fail) only [xXo,WB,↓reduceIte,xXp]
 | succ k ih =>
  intro i hi G Z hZ go hb hnd
  have hlt : i < lo.length := by omega
  have hltI : ((i : Nat) : Int) < (lo.length : Nat) := by omega
  have hdr : lo.drop i = lo[i] :: lo.drop (i + 1) := List.drop_eq_getElem_cons hlt
  rw [hdr] at hb hnd go
  have lo1 := xAQ go
  obtain ⟨b1,b2⟩ := hb lo[i] List.mem_cons_self
  have hal1 := hal lo[i] (List.getElem_mem hlt)
  have h16 := yCA b2 (by omega)
  have lk := xAQ b2
  have hnd' : ∀ p ∈ lo.drop (i + 1),p.2 ≠ lo[i].2 := by
   intro p hp e
   rw [List.map_cons,List.nodup_cons] at hnd
   exact hnd.1 (by rw [← e]; exact List.mem_map.2 ⟨p,hp,rfl⟩)
  have hcells : Z ++ ons xAG (lo[i] :: lo.drop (i + 1)) = Z ++ (xAG lo[i].1 lo[i].2 ++ ons xAG (lo.drop (i + 1))) := rfl
  rw [hcells] at go
  have hlen : (Z ++ (xAG lo[i].1 lo[i].2 ++ ons xAG (lo.drop (i + 1)))).length = lo.length * 6 := by
   rw [List.length_append,hZ,List.length_append,xAO,xCP xAO,List.length_drop]; omega
  have hfl : List.take 1 (List.drop (i * 6 + 2) (Z ++ (xAG lo[i].1 lo[i].2 ++ ons xAG (lo.drop (i + 1))))) = [xSA lo[i].2 lo[i].1.args] := by
   rw [← hZ,List.drop_length_add_append]; rfl
  have hspl : List.take (i * 6) (Z ++ (xAG lo[i].1 lo[i].2 ++ ons xAG (lo.drop (i + 1)))) ++ (AV.int .u8 0 :: AV.int .i64 0 :: AV.sl true 0 [] :: AV.int .i64 0 :: AV.int .i64 0 :: AV.int .i64 0 :: List.drop (i * 6 + 6) (Z ++ (xAG lo[i].1 lo[i].2 ++ ons xAG (lo.drop (i + 1))))) = (Z ++ [.int .u8 0,.int .i64 0,.sl true 0 [],.int .i64 0,.int .i64 0,.int .i64 0]) ++ ons xAG (lo.drop (i + 1)) := by
   rw [← hZ,List.take_left' rfl,List.drop_length_add_append,List.append_assoc]; rfl
  obtain ⟨G',e1,k1⟩ := ih (i + 1) (by omega) ((G.set lo[i].2 (.cells false (lo[i].1.args.length == 0) (xAv (ov7 lo[i].1.args lo[i].1.args.length)))).set o (.cells false false ((Z ++ [.int .u8 0,.int .i64 0,.sl true 0 [],.int .i64 0,.int .i64 0,.int .i64 0]) ++ ons xAG (lo.drop (i + 1)))))
   (Z ++ [.int .u8 0,.int .i64 0,.sl true 0 [],.int .i64 0,.int .i64 0,.int .i64 0]) (by rw [List.length_append,hZ]; show i * 6 + 6 = _; omega) (xDH (by simpa using lo1))
   (fun p hp => by
    obtain ⟨q1,q2⟩ := hb p (List.mem_cons_of_mem _ hp)
    exact ⟨q1,by rw [xBG (Ne.symm q1),xBG (Ne.symm (hnd' p hp))]; exact q2⟩)
   (by rw [List.map_cons,List.nodup_cons] at hnd; exact hnd.2)
  refine ⟨G',?_,fun b h1 h2 => ?_⟩
  ·have h16 : L.icall (.func 16 []) [.own (lo[i].1.args.length == 0) lo[i].2 0 lo[i].1.args.length 1] G = _ := h16
   unfold xSA at hfl
   have go2 : (G.set lo[i].2 (.cells false (lo[i].1.args.length == 0) (xAv (ov7 lo[i].1.args lo[i].1.args.length))))[o]? = some (.cells false false (Z ++ (xAG lo[i].1 lo[i].2 ++ ons xAG (lo.drop (i + 1))))) := by rw [xBG b1]; exact go
   clear hcells hdr ih hb hnd hnd' b2
   generalize (Z ++ [.int .u8 0,.int .i64 0,.sl true 0 [],.int .i64 0,.int .i64 0,.int .i64 0]) ++ ons xAG (lo.drop (i + 1)) = L2 at *
   generalize Z ++ (xAG lo[i].1 lo[i].2 ++ ons xAG (lo.drop (i + 1))) = L1 at *
   generalize xAv (ov7 lo[i].1.args lo[i].1.args.length) = IV at *
   generalize lo[i].1.args.length = na at *
   generalize lo[i].2 = kk at *
   rw [yCh]
   simp (maxSteps := 30000000) (disch := first|exact D6|fail) only [xXo,WB,hltI,↓reduceIte,go,hfl,h16,AV.cells,Nat.reduceAdd,go2,hspl,xXp,e1]
  ·rw [k1 b h1 h2,xBG (Ne.symm h1),xBG (Ne.symm (h2 _ (List.getElem_mem hlt)))]
end
theorem xL4 {n : Nd} {E E' : List Ev} {A A' B B' : Nat → Q} : ∀ t,(∀ s,s < t → E.getD s ev0 = E'.getD s ev0 ∧ A s = A' s ∧ B s = B' s) → xJh n E A B t = xJh n E' A' B' t
 | 0,_ => rfl
 | t + 1,h => by
  obtain ⟨h1,h2,h3⟩ := h t (by omega)
  rw [xJh,xJh,h1,h2,h3,xL4 t fun s hs => h s (by omega)]
theorem xGz {fs : List Nd} {E E' : List Ev} {T : Nat} (h : ∀ s,s ≤ T → E.getD s ev0 = E'.getD s ev0) : ∀ k i t,t ≤ T → sem fs E k i t = sem fs E' k i t
 | 0,_,_,_ => rfl
 | k + 1,i,t,ht => by
  rw [sem,sem,h t ht,xGz h k _ t ht,xGz h k _ t ht]
  rw [xL4 t fun s hs => ⟨h s (by omega),xGz h k _ s (by omega),xGz h k _ s (by omega)⟩]
theorem yEX {fs : List Nd} {E E' : List Ev} {t : Nat} (h : ∀ s,s < t → E.getD s ev0 = E'.getD s ev0) (i : Nat) : W fs E i t = W fs E' i t := by
 unfold W
 refine xL4 t fun s hs => ⟨h s hs,?_,?_⟩
 ·exact xGz (T := s) (fun r hr => h r (by omega)) _ _ s (Nat.le_refl _)
 ·exact xGz (T := s) (fun r hr => h r (by omega)) _ _ s (Nat.le_refl _)
theorem xVq {E : List Ev} {e : Ev} {s : Nat} (h : s < E.length) : E.getD s ev0 = (E ++ [e]).getD s ev0 := by
 rw [List.getD_eq_getElem?_getD,List.getD_eq_getElem?_getD,List.getElem?_append_left h]
theorem xVr (E : List Ev) (e : Ev) : (E ++ [e]).getD E.length ev0 = e := by
 rw [List.getD_eq_getElem?_getD,List.getElem?_append_right (Nat.le_refl _),Nat.sub_self]; rfl
section
variable {F : List Nd} {E : List Ev}
theorem xSs (E : List Ev) (e : Ev) : (tlR F 0).map (fun i => bsQ (W F E i E.length)) = (tlR F 0).map fun i => bsQ (W F (E ++ [e]) i E.length) :=
 List.map_congr_left fun i _ => by rw [yEX (fun s hs => xVq hs) i]
theorem xXA (hV : ∀ j,j < F.length → Vn j (F.getD j nd0)) (h0 : 0 < F.length) (E : List Ev) (e : Ev) : (xCy e F [] (xAJ F E)).2 = xAJ F (E ++ [e]) ∧ xMd F e (xAJ F E) = S F (E ++ [e]) (F.length - 1) E.length 0 := by
 have hs := xOA (E := E ++ [e]) hV E.length F 0 rfl (by omega)
 rw [xVr] at hs
 have hs' : xE6 e F [] ((tlR F 0).map fun i => W F (E ++ [e]) i E.length) = _ := hs
 have hr : xAJ F E = ((tlR F 0).map fun i => W F (E ++ [e]) i E.length).map bsQ := by
  unfold xAJ
  rw [xSs E e,List.map_map]; rfl
 have ho := xEC e F [] [] ((tlR F 0).map fun i => W F (E ++ [e]) i E.length) .nil
 rw [hs'] at ho
 refine ⟨?_,?_⟩
 ·rw [hr,ho.2]
  unfold xAJ
  rw [List.length_append,List.map_map]; rfl
 ·rw [hr,xPz,hs',xRH (by omega)]
theorem xVs : xAJ F [] = zr (nT F) := by
 have h1 : xAJ F [] = (tlR F 0).map fun _ => List.replicate 64 0 := by
  unfold xAJ
  refine List.map_congr_left fun i _ => ?_
  rw [← xHo]; rfl
 rw [h1,← xWq F 0]
 exact List.map_const' (l := tlR F 0) (b := List.replicate 64 0)
theorem yAk (e : Ev) : (vS F (E ++ [e])).getD E.length false = S F (E ++ [e]) (F.length - 1) E.length 0 := by
 unfold vS
 rw [List.getD_eq_getElem?_getD,List.getElem?_map,List.getElem?_range (by simp)]; rfl
end
def rsK : Option (List AV) → Option (List AV) → Bool
 | none,_ => true
 | some _,none => false
 | some cs,some cs' => cs.length == cs'.length && (cs.zip cs').all fun p => xMl 4 p.1 p.2
theorem xRi (H H' : Heap) (p : AV) (n : Nat) : xHU H H' p n = rsK (rd H p n) (rd H' p n) := by
 unfold xHU rsK
 cases rd H p n with
 | none => rfl
 | some a => cases rd H' p n <;> rfl
theorem xFS (R : Rec) (F : List AV) (H : Heap) (z : List AV) (es n : Nat) (ps : List (Nat × Arg)) : xBo R F H (.dslice z es n ps) = xOC H (xAa R F H (.dslice z es n ps)) := xGf _ rfl
theorem xCx (z : List AV) (es n : Nat) (ps : List (Nat × Arg)) : xBe (.dslice z es n ps) = false := rfl
theorem xOo (d : Nat) : ∀ l : List Int,((xAv l).zip (xAv l)).all (fun p => xMl (d + 1) p.1 p.2) = true
 | [] => rfl
 | n :: l => by
  show (xMl (d + 1) (.int .i64 n) (.int .i64 n) && ((xAv l).zip (xAv l)).all (fun p => xMl (d + 1) p.1 p.2)) = true
  rw [xOo d l]
  simp [xMl]
theorem xRj (nm : Int) (z : Bool) (n : Nat) (l : List Int) : rsK (some [.int .i64 nm,.sl z n (xAv l)]) (some [.int .i64 nm,.sl z n (xAv l)]) = true := by
 have h1 : xMl 4 (.int .i64 nm) (.int .i64 nm) = true := by simp [xMl]
 have h2 : xMl 4 (.sl z n (xAv l)) (.sl z n (xAv l)) = true := by
  show (z == z && n == n && (xAv l).length == (xAv l).length && ((xAv l).zip (xAv l)).all fun p => xMl 3 p.1 p.2) = true
  rw [xOo 2 l]; simp
 show (2 == 2 && (xMl 4 (.int .i64 nm) (.int .i64 nm) && (xMl 4 (.sl z n (xAv l)) (.sl z n (xAv l)) && true))) = true
 rw [h1,h2]; rfl
theorem xRk {α : Type} {l : List α} (h : 0 < l.length) : l.isEmpty = false := by
 cases l with
 | nil => simp at h
 | cons _ _ => rfl
theorem xOp {l : List Ev} {i : Nat} (h : i ≤ l.length) : List.drop (i * 2) (evs l) = evs (l.drop i) := by
 have h1 : evs l = evs (l.take i) ++ evs (l.drop i) := by rw [xPD,List.take_append_drop]
 have h2 : (evs (l.take i)).length = i * 2 := by rw [xCd,List.length_take,Nat.min_eq_left h]
 rw [h1,← h2,List.drop_left' rfl]
def SoI (G : Heap) (v : AV) (E : List Ev) (m sb : Nat) : Prop := (E = [] ∧ v = .sl true 0 []) ∨ ∃ o fz,v = .own false o 0 E.length 2 ∧ G[o]? = some (.cells fz false (evs E)) ∧ E ≠ [] ∧ o ≠ m ∧ o ≠ sb
section
variable {F : List Nd} {l : List Ev} {zl : Bool} {m sb : Nat}
abbrev F41 (l : List Ev) (zl : Bool) (F : List Nd) (m : Nat) (v : AV) (i : Nat) : List AV := xSm (.sl zl l.length (evs l)) .any (.sl false F.length (nds F)) (.ptr m 0) v (.int .i64 (i : Nat))
theorem D7 {p : Prop} (h : p := by first | assumption | omega | (simp only [WZ,AV.isCell,List.length_modify] <;> omega) | rfl | decide) : p := h
set_option maxRecDepth 100000 in
theorem xVt {G : Heap} {E : List Ev} {v : AV} {i : Nat} (hc : chk F = 0) (hl : l.length ≤ 9223372036854775807) (hlt : i < l.length) (h10 : i < 10) (hb : xEn (shE (l.getD i ev0)) = true)
  (hm : Mo false F m sb G (xAJ F E) (min E.length 1)) (hs : SoI G v E m sb) (hE : E.length ≤ i) (hok : E.all xEn = true) :
  ∃ (G' : Heap) (v' : AV),L.loop xIs xWy ⟨F41 l zl F m v i,G⟩ = L.loop xIs xWy ⟨F41 l zl F m v' (i + 1),G'⟩ ∧
   Mo false F m sb G' (xAJ F (E ++ [shE (l.getD i ev0)])) (min (E ++ [shE (l.getD i ev0)]).length 1) ∧ SoI G' v' (E ++ [shE (l.getD i ev0)]) m sb := by
 obtain ⟨h0,hlen,hV⟩ := xL9 hc
 have lm := xAQ hm.gm
 have lb := xAQ hm.gb
 have hltI : ((i : Nat) : Int) < (l.length : Nat) := by omega
 have h10I : ((i : Nat) : Int) < 10 := by omega
 have hdl : (l.drop i).length = l.length - i := by simp
 have h21 := xRh (l := l.drop i) (z := zl) (by omega)
 have hg : (l.drop i).getD 0 ev0 = l.getD i ev0 := by rw [List.getD_eq_getElem?_getD,List.getElem?_drop,List.getD_eq_getElem?_getD,Nat.add_zero]
 rw [hg,hdl] at h21
 have hbd : xBn l.length (some (.int .i64 (i : Nat))) none none = some (i,l.length) := by
  rw [xNq (Int.natCast_nonneg _) (by omega)]; rfl
 have hdr : List.take ((l.length - i) * 2) (List.drop (i * 2) (evs l)) = evs (l.drop i) := by
  rw [xOp (by omega),← hdl,xDE]
 generalize shE (l.getD i ev0) = e at *
 have hm1 : Mo false F m sb (G ++ [.cells false false (evC e)]) (xAJ F E) (min E.length 1) := ⟨by rw [xAC lm]; exact hm.gm,by rw [xAC lb]; exact hm.gb,hm.ne,hm.rw,hm.h0⟩
 obtain ⟨G2,e1,m2,k2⟩ := xI7 hm1 h0 (by omega) hV hb
 change L.icall (.func 22 []) [.ptr m 0,evA e] _ = some (.tup [.bool (xMd F e (xAJ F E)),.int .i64 0],G2) at e1
 obtain ⟨q1,q2⟩ := xXA hV h0 E e
 rw [q1] at m2
 rw [q2,← yAk] at e1
 have h15 := xPx false F (by omega)
 rw [xRk h0] at h15
 have hall : (E ++ [e]).all xEn = true := by rw [List.all_append,hok]; simp [hb]
 have hEl : (E ++ [e]).length = E.length + 1 := by simp
 have hEe : (E ++ [e]).isEmpty = false := xRk (by omega)
 have h23 := xZg (zf := false) (zt := false) (E := E ++ [e]) hc (by omega)
 rw [if_pos hall,hEl,hEe] at h23
 have h26 := xPM (zf := false) (zt := false) (E := E ++ [e]) hc (by omega)
 have hmin1 : min (E ++ [e]).length 1 = 1 := by omega
 have hstB : stB F (E ++ [e]) = 1 :: (xAJ F (E ++ [e])).flatten := by unfold stB; rw [hmin1]
 rw [hEl] at h26
 have hvl := xOy F (E ++ [e])
 rw [hEl] at hvl
 have hvat := xC6 (l := vS F (E ++ [e])) (k := E.length) (by omega)
 have hvbl := xAE (vS F (E ++ [e]))
 rw [hvl] at hvbl
 have ge2 : G2[G.length]? = some (.cells false false (evC e)) := by
  rw [k2.2 G.length (by simp) (by omega),List.getElem?_append_right (Nat.le_refl _),Nat.sub_self]; rfl
 have hl2 : (xAJ F (E ++ [e])).length = nT F := m2.rw.1
 have hst : (1 :: (xAJ F (E ++ [e])).flatten).length = 64 * nT F + 1 := by rw [List.length_cons,m2.rw.flen,hl2]
 have hwl := m2.rw.le
 have gm2 := m2.gm
 rw [hl2] at gm2 hwl
 rw [hstB,hst] at h26
 have lm2 := xAQ m2.gm
 have lb2 := xAQ m2.gb
 have hk2 := k2.1
 rw [List.length_append] at hk2
 have hk2 : G.length + 1 ≤ G2.length := hk2
 have h24 := xOq (m := m) (sb := sb) (G := G2 ++ [.dead,.dead,.cells true false (evs (E ++ [e]))]) (by rw [xAC lm2]; exact gm2) (by rw [xAC lb2]; exact m2.gb) hst (by omega) (by omega)
 have h25 := yAo (z2 := false) (o1 := G2.length + 3 + 1) (a := 1 :: (xAJ F (E ++ [e])).flatten) (b := 1 :: (xAJ F (E ++ [e])).flatten) (f1 := false) (z1 := false) (H := G2 ++ [.dead,.dead,.cells true false (evs (E ++ [e])),.dead,.cells false false (bs (1 :: (xAJ F (E ++ [e])).flatten))]) (by rw [List.getElem?_append_right (by omega),show G2.length + 3 + 1 - G2.length = 4 by omega]; rfl) (by omega)
 rw [decide_eq_true rfl,hst] at h25
 have h27 := xY6 (o := G2.length + 3 + 1) (l := 1 :: (xAJ F (E ++ [e])).flatten) (G := G2 ++ [.dead,.dead,.cells true false (evs (E ++ [e])),.dead,.cells false false (bs (1 :: (xAJ F (E ++ [e])).flatten))]) (by rw [List.getElem?_append_right (by omega),show G2.length + 3 + 1 - G2.length = 4 by omega]; rfl) (by omega)
 rw [hst] at h27
 have hmE : m ≠ sb := hm.ne
 refine ⟨G2 ++ [.dead,.dead,.cells true false (evs (E ++ [e])),.dead,.cells false false (bs (ovr (1 :: (xAJ F (E ++ [e])).flatten) (64 * nT F + 1)))],.own false (G2.length + 2) 0 (E.length + 1) 2,?_,
  ⟨by rw [xAC lm2]; exact m2.gm,by rw [xAC lb2,hmin1]; exact m2.gb,m2.ne,m2.rw,by omega⟩,
  .inr ⟨G2.length + 2,true,by rw [hEl],by rw [List.getElem?_append_right (by omega),show G2.length + 2 - G2.length = 2 by omega]; rfl,by simp,by omega,by omega⟩⟩
 have hnv : xA7 e.z e.args = .sl e.z e.args.length (xAv e.args) := rfl
 have hEC : evs E ++ evC e = evs (E ++ [e]) := by rw [← xPD]; simp [rows]
 have hevl := xCd E
 have hevt : List.take (E.length * 2) (evs E) = evs E := xDE E
 have hevl2 := xCd (E ++ [e])
 rw [hEl] at hevl2
 have hevt2 : List.take ((E.length + 1) * 2) (evs (E ++ [e])) = evs (E ++ [e]) := by rw [← hEl]; exact xDE _
 have hfr := fun d H => xI3 d H (E ++ [e])
 have hbo := fun d H => xI4 d H (E ++ [e])
 have hl1I : (((E.length + 1 : Nat) : Int) - 1) = ((E.length : Nat) : Int) := by omega
 have hl2I : ((E.length : Nat) : Int) < ((E.length + 1 : Nat) : Int) := by omega
 unfold evA at e1
 unfold evC at e1 h21 ge2 hEC
 rw [hnv] at e1 h21 ge2 hEC
 rw [List.set_append_right _ _ (by omega),show G2.length + 3 + 1 - G2.length = 4 by omega] at h27
 have h27 : L.icall (.func 27 []) [.own false (G2.length + 3 + 1) 0 (64 * nT F + 1) 1] _ = some (.tup [],G2 ++ [.dead,.dead,.cells true false (evs (E ++ [e])),.dead,.cells false false (bs (ovr (1 :: (xAJ F (E ++ [e])).flatten) (64 * nT F + 1)))]) := h27
 rw [show (G2 ++ [Blk.dead,Blk.dead,Blk.cells true false (evs (E ++ [e]))]).length = G2.length + 3 by simp,List.append_assoc] at h24
 have h24 : L.icall (.func 24 []) [.ptr m 0] _ = some (.own false (G2.length + 3 + 1) 0 (64 * nT F + 1) 1,G2 ++ [.dead,.dead,.cells true false (evs (E ++ [e])),.dead,.cells false false (bs (1 :: (xAJ F (E ++ [e])).flatten))]) := h24
 have hneB : (G.length != G2.length) = true := by rw [bne_iff_ne]; omega
 have hd1 : ([.int .i64 e.name,.sl e.z e.args.length (xAv e.args)] : List AV).all xBN = true := rfl
 unfold F41
 generalize (vS F (E ++ [e])).getD E.length false = b at *
 generalize bls (vS F (E ++ [e])) = VB at *
 generalize bs (ovr (1 :: (xAJ F (E ++ [e])).flatten) (64 * nT F + 1)) = OV at *
 generalize bs (1 :: (xAJ F (E ++ [e])).flatten) = ST at *
 generalize evs (E ++ [e]) = EV2 at *
 generalize hEL : E.length = T at *
 have hT10 : T ≤ 10 := by omega
 rcases hs with ⟨hE0,rfl⟩ | ⟨o,fz,rfl,go,-,ho1,ho2⟩
 ·subst hE0
  have hT0 : T = 0 := hEL.symm
  subst hT0
  have hEC0 : [AV.int .i64 e.name,.sl e.z e.args.length (xAv e.args)] = EV2 := hEC
  clear hfr hbo hevl2 hevt2 hEC
  subst hEC0
  have h23 : L.pcall 23 [.sl false F.length (nds F),.sl false 1 [.int .i64 e.name,.sl e.z e.args.length (xAv e.args)]] = some (.tup [.sl false 1 VB,.int .i64 0]) := h23
  have h26 : L.pcall 26 [.sl false F.length (nds F),.sl false 1 [.int .i64 e.name,.sl e.z e.args.length (xAv e.args)]] = some (.sl false (64 * nT F + 1) ST) := h26
  have hvat : List.take 1 VB = [.bool b] := hvat
  have hvbl : VB.length = 1 := hvbl
  show _ = L.loop xIs xWy ⟨xSm (.sl zl l.length (evs l)) .any (.sl false F.length (nds F)) (.ptr m 0) (.own false (G2.length + 2) 0 1 2) (.int .i64 ((i + 1 : Nat) : Int)),_⟩
  rw [xPf]
  simp (maxSteps := 30000000) (disch := first|exact D7|fail) only [xLM,WB,hltI,↓reduceIte,h10I,hbd,hdr,h21,xAD,xAn,Nat.reduceMul,AV.cells,AV.isCell,Nat.reduceAdd,xBl,xBP,e1,WH,WP,ge2,xCx,xFS,xFT,xHn,Nat.reduceSub,xRi,xAC,xRj,xI8,Nat.reduceBEq,yA1,xTc,hneB,h15,xAU,h23,xCN,Nat.reduceEqDiff,xBM,Int.reduceSub,hvat,h24,h26,h25,h27,xLN]
 ·have loo := xAQ go
  have go2 : G2[o]? = some (.cells fz false (evs E)) := by
   rw [k2.2 o (by simp; omega) ho2,xAC loo]; exact go
  have loo2 := xAQ go2
  generalize evs E = EV at *
  rw [hEL]
  rw [xPf]
  simp (maxSteps := 30000000) (disch := first|exact D7|fail) only [xLM,WB,hltI,↓reduceIte,h10I,hbd,hdr,h21,xAD,xAn,Nat.reduceMul,AV.cells,AV.isCell,Nat.reduceAdd,xBl,xBP,e1,WH,WP,ge2,xCx,xFS,xFT,xHn,Nat.reduceSub,xRi,xAC,xRj,go2,hevt,xI8,Nat.reduceBEq,yA1,hEC,xTc,hneB,h15,xAU,hevt2,hfr,h23,xCN,hbo,Nat.reduceEqDiff,xBM,hl1I,hvat,h24,h26,h25,h27,xLN]
end
theorem xLa {G X : Heap} {o : Nat} {f : Blk → Blk} (h : o < G.length) : List.modify (G ++ X) o f = List.modify G o f ++ X := by
 apply List.ext_getElem?
 intro j
 rw [List.getElem?_modify,List.getElem?_append,List.getElem?_append,List.length_modify,List.getElem?_modify]
 by_cases c : j < G.length
 ·simp [c]
 ·have : ¬ o = j := by omega
  simp [c,this]
section
variable {F : List Nd} {l : List Ev} {zl : Bool} {m sb : Nat}
set_option maxRecDepth 100000 in
theorem xSt {G : Heap} {E : List Ev} {v : AV} {i : Nat} (hc : chk F = 0) (hl : l.length ≤ 9223372036854775807) (hlt : i < l.length) (h10 : i < 10) (hb : xEn (shE (l.getD i ev0)) = false)
  (hm : Mo false F m sb G (xAJ F E) (min E.length 1)) (hs : SoI G v E m sb) (hE : E.length ≤ i) (hok : E.all xEn = true) :
  ∃ (G' : Heap),L.loop xIs xWy ⟨F41 l zl F m v i,G⟩ = L.loop xIs xWy ⟨F41 l zl F m v (i + 1),G'⟩ ∧
   Mo false F m sb G' (xAJ F E) (min E.length 1) ∧ SoI G' v E m sb := by
 obtain ⟨h0,hlen,hV⟩ := xL9 hc
 have lm := xAQ hm.gm
 have lb := xAQ hm.gb
 have hltI : ((i : Nat) : Int) < (l.length : Nat) := by omega
 have h10I : ((i : Nat) : Int) < 10 := by omega
 have hdl : (l.drop i).length = l.length - i := by simp
 have h21 := xRh (l := l.drop i) (z := zl) (by omega)
 have hg : (l.drop i).getD 0 ev0 = l.getD i ev0 := by rw [List.getD_eq_getElem?_getD,List.getElem?_drop,List.getD_eq_getElem?_getD,Nat.add_zero]
 rw [hg,hdl] at h21
 have hbd : xBn l.length (some (.int .i64 (i : Nat))) none none = some (i,l.length) := by
  rw [xNq (Int.natCast_nonneg _) (by omega)]; rfl
 have hdr : List.take ((l.length - i) * 2) (List.drop (i * 2) (evs l)) = evs (l.drop i) := by
  rw [xOp (by omega),← hdl,xDE]
 generalize shE (l.getD i ev0) = e at *
 have hm1 : Mo false F m sb (G ++ [.cells false false (evC e)]) (xAJ F E) (min E.length 1) := ⟨by rw [xAC lm]; exact hm.gm,by rw [xAC lb]; exact hm.gb,hm.ne,hm.rw,hm.h0⟩
 obtain ⟨G2,e1,k2⟩ := xGC hm1 h0 hb
 have m2 : Mo false F m sb G2 (xAJ F E) (min E.length 1) := ⟨by rw [k2.2 m (by simp; omega)]; exact hm1.gm,by rw [k2.2 sb (by simp; omega)]; exact hm1.gb,hm.ne,hm.rw,hm.h0⟩
 have h15 := xPx false F (by omega)
 rw [xRk h0] at h15
 have hall : ¬ (E ++ [e]).all xEn = true := by rw [List.all_append]; simp [hb]
 have hEl : (E ++ [e]).length = E.length + 1 := by simp
 have h23 := xZg (zf := false) (zt := false) (E := E ++ [e]) hc (by omega)
 rw [if_neg hall,hEl] at h23
 have ge2 : G2[G.length]? = some (.cells false false (evC e)) := by
  rw [k2.2 G.length (by simp),List.getElem?_append_right (Nat.le_refl _),Nat.sub_self]; rfl
 have hl2 : (xAJ F E).length = nT F := m2.rw.1
 have hst : (min E.length 1 :: (xAJ F E).flatten).length = 64 * nT F + 1 := by rw [List.length_cons,m2.rw.flen,hl2]
 have hstB : stB F E = min E.length 1 :: (xAJ F E).flatten := rfl
 have hwl := m2.rw.le
 have gm2 := m2.gm
 rw [hl2] at gm2 hwl
 have lm2 := xAQ m2.gm
 have lb2 := xAQ m2.gb
 have hk2 := k2.1
 rw [List.length_append] at hk2
 have hk2 : G.length + 1 ≤ G2.length := hk2
 have h24 := xOq (m := m) (sb := sb) (G := G2 ++ [.dead,.dead,.cells true false (evs (E ++ [e]))]) (by rw [xAC lm2]; exact gm2) (by rw [xAC lb2]; exact m2.gb) hst (by omega) (by omega)
 rw [show (G2 ++ [Blk.dead,Blk.dead,Blk.cells true false (evs (E ++ [e]))]).length = G2.length + 3 by simp,List.append_assoc] at h24
 have h24 : L.icall (.func 24 []) [.ptr m 0] _ = some (.own false (G2.length + 3 + 1) 0 (64 * nT F + 1) 1,G2 ++ [.dead,.dead,.cells true false (evs (E ++ [e])),.dead,.cells false false (bs (min E.length 1 :: (xAJ F E).flatten))]) := h24
 have h25 := fun (G3 : Heap) (h3 : G3.length = G2.length) => yAo (z2 := false) (o1 := G2.length + 3 + 1) (a := min E.length 1 :: (xAJ F E).flatten) (b := min E.length 1 :: (xAJ F E).flatten) (f1 := false) (z1 := false) (H := G3 ++ [.dead,.dead,.cells true false (evs (E ++ [e])),.dead,.cells false false (bs (min E.length 1 :: (xAJ F E).flatten))]) (by rw [List.getElem?_append_right (by omega),show G2.length + 3 + 1 - G3.length = 4 by omega]; rfl) (by omega)
 have h27 := fun (G3 : Heap) (h3 : G3.length = G2.length) => xY6 (o := G2.length + 3 + 1) (l := min E.length 1 :: (xAJ F E).flatten) (G := G3 ++ [.dead,.dead,.cells true false (evs (E ++ [e])),.dead,.cells false false (bs (min E.length 1 :: (xAJ F E).flatten))]) (by rw [List.getElem?_append_right (by omega),show G2.length + 3 + 1 - G3.length = 4 by omega]; rfl) (by omega)
 have hset : ∀ (G3 : Heap) (h3 : G3.length = G2.length),(G3 ++ [Blk.dead,Blk.dead,Blk.cells true false (evs (E ++ [e])),Blk.dead,Blk.cells false false (bs (min E.length 1 :: (xAJ F E).flatten))]).set (G2.length + 3 + 1) (.cells false false (bs (ovr (min E.length 1 :: (xAJ F E).flatten) (64 * nT F + 1)))) = G3 ++ [.dead,.dead,.cells true false (evs (E ++ [e])),.dead,.cells false false (bs (ovr (min E.length 1 :: (xAJ F E).flatten) (64 * nT F + 1)))] := by
  intro G3 h3
  rw [List.set_append_right _ _ (by omega),show G2.length + 3 + 1 - G3.length = 4 by omega]; rfl
 rw [hst] at h25 h27
 have h27 := fun (G3 : Heap) (h3 : G3.length = G2.length) => (h27 G3 h3).trans (by rw [hset G3 h3])
 clear hset
 have hnv : xA7 e.z e.args = .sl e.z e.args.length (xAv e.args) := rfl
 have hEC : evs E ++ evC e = evs (E ++ [e]) := by rw [← xPD]; simp [rows]
 have hevl := xCd E
 have hevt : List.take (E.length * 2) (evs E) = evs E := xDE E
 have hevl2 := xCd (E ++ [e])
 rw [hEl] at hevl2
 have hevt2 : List.take ((E.length + 1) * 2) (evs (E ++ [e])) = evs (E ++ [e]) := by rw [← hEl]; exact xDE _
 have hfr := fun d H => xI3 d H (E ++ [e])
 have hbo := fun d H => xI4 d H (E ++ [e])
 have hfr1 := fun d H => xI3 d H E
 have hbo1 := fun d H => xI4 d H E
 have h26 := fun zt => xPM (zf := false) (zt := zt) (E := E) hc (by omega)
 rw [hstB,hst] at h26
 unfold evA at e1
 unfold evC at e1 h21 ge2 hEC
 rw [hnv] at e1 h21 ge2 hEC
 have hneB : (G.length != G2.length) = true := by rw [bne_iff_ne]; omega
 have hd1 : ([.int .i64 e.name,.sl e.z e.args.length (xAv e.args)] : List AV).all xBN = true := rfl
 have hdt : decide ((min E.length 1 :: (xAJ F E).flatten) = (min E.length 1 :: (xAJ F E).flatten)) = true := decide_eq_true rfl
 rw [hdt] at h25
 clear hdt hst hstB
 rcases hs with ⟨hE0,rfl⟩ | ⟨o,fz,rfl,go,hEn,ho1,ho2⟩
 ·refine ⟨G2 ++ [.dead,.dead,.cells true false (evs (E ++ [e])),.dead,.cells false false (bs (ovr (min E.length 1 :: (xAJ F E).flatten) (64 * nT F + 1)))],?_,
   ⟨by rw [xAC lm2]; exact m2.gm,by rw [xAC lb2]; exact m2.gb,m2.ne,m2.rw,m2.h0⟩,.inl ⟨hE0,rfl⟩⟩
  have h25 := h25 G2 rfl
  have h27 := h27 G2 rfl
  unfold F41
  subst hE0
  have h26 : L.pcall 26 [.sl false F.length (nds F),.sl true 0 []] = _ := h26 true
  generalize bs (ovr (min ([] : List Ev).length 1 :: (xAJ F []).flatten) (64 * nT F + 1)) = OV at *
  generalize bs (min ([] : List Ev).length 1 :: (xAJ F []).flatten) = ST at *
  generalize evs ([] ++ [e]) = EV2 at *
  have hEC0 : [AV.int .i64 e.name,.sl e.z e.args.length (xAv e.args)] = EV2 := hEC
  clear hfr hbo hevl2 hevt2 hEC
  subst hEC0
  have h23 : L.pcall 23 [.sl false F.length (nds F),.sl false 1 [.int .i64 e.name,.sl e.z e.args.length (xAv e.args)]] = some (.tup [.sl true 0 [],.int .i64 1]) := h23
  rw [xPf]
  simp (maxSteps := 30000000) (disch := first|exact D7|fail) only [xLM,WB,hltI,↓reduceIte,h10I,hbd,hdr,h21,xAD,xAn,Nat.reduceMul,AV.cells,AV.isCell,Nat.reduceAdd,xBl,xBP,e1,WH,WP,ge2,xCx,xFS,xFT,xHn,Nat.reduceSub,xRi,xAC,xRj,xI8,Nat.reduceBEq,yA1,xTc,hneB,h15,xAU,h23,xCN,Nat.reduceEqDiff,xBM,Int.reduceEq,h24,h26,h25,h27,xLN]
 ·have loo := xAQ go
  have go2 : G2[o]? = some (.cells fz false (evs E)) := by
   rw [k2.2 o (by simp; omega),xAC loo]; exact go
  have loo2 := xAQ go2
  have hml : ∀ X : Heap,List.modify (G2 ++ X) o xBM = List.modify G2 o xBM ++ X := by
   intro X
   exact xLa loo2
  have h3l : (List.modify G2 o xBM).length = G2.length := List.length_modify _ _ _
  have g3 : (List.modify G2 o xBM)[o]? = some (.cells true false (evs E)) := by
   rw [List.getElem?_modify,go2]; simp [xBM]
  refine ⟨List.modify G2 o xBM ++ [.dead,.dead,.cells true false (evs (E ++ [e])),.dead,.cells false false (bs (ovr (min E.length 1 :: (xAJ F E).flatten) (64 * nT F + 1)))],?_,
   ⟨by rw [xAC (by omega),yBk ho1]; exact m2.gm,by rw [xAC (by omega),yBk ho2]; exact m2.gb,m2.ne,m2.rw,m2.h0⟩,.inr ⟨o,true,rfl,by rw [xAC (by omega)]; exact g3,hEn,ho1,ho2⟩⟩
  have h25 := h25 _ h3l
  have h27 := h27 _ h3l
  have h26 := h26 false
  generalize List.modify G2 o xBM = G3 at *
  unfold F41
  generalize bs (ovr (min E.length 1 :: (xAJ F E).flatten) (64 * nT F + 1)) = OV at *
  generalize bs (min E.length 1 :: (xAJ F E).flatten) = ST at *
  generalize evs (E ++ [e]) = EV2 at *
  generalize evs E = EV at *
  generalize hEL : E.length = T at *
  have hT10 : T ≤ 10 := by omega
  rw [xPf]
  simp (maxSteps := 30000000) (disch := first|exact D7|fail) only [xLM,WB,hltI,↓reduceIte,h10I,hbd,hdr,h21,xAD,xAn,Nat.reduceMul,AV.cells,AV.isCell,Nat.reduceAdd,xBl,xBP,e1,WH,WP,ge2,xCx,xFS,xFT,xHn,Nat.reduceSub,xRi,xAC,xRj,go2,hevt,xI8,Nat.reduceBEq,yA1,hEC,xTc,hneB,h15,xAU,hevt2,hfr,h23,xCN,hbo,Nat.reduceEqDiff,xBM,Int.reduceEq,h24,hfr1,h26,hbo1,hml,h25,h27,xLN]
theorem yCC (hc : chk F = 0) (hl : l.length ≤ 9223372036854775807) : ∀ (k i : Nat),i + k = min l.length 10 → ∀ (G : Heap) (E : List Ev) (v : AV),Mo false F m sb G (xAJ F E) (min E.length 1) → SoI G v E m sb → E.length ≤ i → E.all xEn = true →
  ∃ (G' : Heap) (E' : List Ev) (v' : AV),L.loop xIs xWy ⟨F41 l zl F m v i,G⟩ = some (.exit 2,⟨F41 l zl F m v' (min l.length 10),G'⟩) ∧ Mo false F m sb G' (xAJ F E') (min E'.length 1) ∧ SoI G' v' E' m sb ∧ E'.length ≤ 10 := by
 intro k
 induction k with
 | zero =>
  intro i hi G E v hm hs hE hok
  obtain rfl : i = min l.length 10 := by omega
  refine ⟨G,E,v,?_,hm,hs,by omega⟩
  by_cases c : l.length < 10
  ·rw [Nat.min_eq_left (by omega),xPf]
   simp (maxSteps := 30000000) (disch := first|exact D7|fail) only [xLM,WB,↓reduceIte,xLN]
  ·rw [Nat.min_eq_right (by omega)]
   by_cases c2 : l.length = 10
   ·have c3 : ¬ ((10 : Int) < (l.length : Nat)) := by omega
    rw [xPf]
    simp (maxSteps := 30000000) (disch := first|exact D7|fail) only [xLM,WB,c3,↓reduceIte,xLN]
    rfl
   ·have c3 : ((10 : Int) < (l.length : Nat)) := by omega
    rw [xPf]
    simp (maxSteps := 30000000) (disch := first|exact D7|fail) only [xLM,WB,c3,↓reduceIte,xLN]
    rfl
 | succ k ih =>
  intro i hi G E v hm hs hE hok
  cases hb : xEn (shE (l.getD i ev0)) with
  | false =>
   obtain ⟨G1,e1,m1,s1⟩ := xSt (zl := zl) hc hl (show i < l.length by omega) (by omega) hb hm hs hE hok
   obtain ⟨G2,E2,v2,e2,r⟩ := ih (i + 1) (by omega) G1 E v m1 s1 (by omega) hok
   exact ⟨G2,E2,v2,e1.trans e2,r⟩
  | true =>
   obtain ⟨G1,v1,e1,m1,s1⟩ := xVt (zl := zl) hc hl (show i < l.length by omega) (by omega) hb hm hs hE hok
   obtain ⟨G2,E2,v2,e2,r⟩ := ih (i + 1) (by omega) G1 _ v1 m1 s1 (by simp; omega) (by rw [List.all_append,hok]; show (true && (xEn _ && true)) = true; rw [hb]; rfl)
   exact ⟨G2,E2,v2,e1.trans e2,r⟩
end
end Go.Abs.Events
