/- explore: the loops,over any call. -/
import Derived.Test.YtdkbhidfiplncaaAME
import Derived.Test.YtdkbhidfiplncaaAbsWalk3
import Derived.Test.YtdkbhidfiplncaaATV
namespace Go.Abs.Det
open Go Go.Abs
set_option linter.unusedSimpArgs false
set_option linter.unusedVariables false

def xJl (size : Nat) (bad : Bool) : Int := if bad = true then -1 else (size : Nat)

structure Exp {σ : Type} (v : Int) (B N : Nat) (f : AV) (size : σ → Nat) (bad : σ → Bool) (stp : σ → Nat → Nat → Nat → σ) (I : σ → Nat → xAv → Prop) : Prop where
  v0 : 0 ≤ v
  v3 : v ≤ 3
  n64 : N ≤ 64
  grow : ∀ s lb G X,I s lb G → I s lb (G ++ [X])
  lb : ∀ s lb G,I s lb G → lb < G.length ∧ B ≤ G.length
  le : ∀ s lb G,I s lb G → bad s = false → size s ≤ N
  mono : ∀ s l r x,size s ≤ size (stp s l r x)
  call : ∀ s lb G (l r x p : Nat),I s lb G → bad s = false → l < size s → r < size s → x < two v → B ≤ p → p ≠ lb → p < G.length →
    ∃ G' lb',L.icall f [.int .i64 (l : Nat),.int .i64 (r : Nat),.int .i64 (x : Nat)] G = some (.int .i64 (xJl (size (stp s l r x)) (bad (stp s l r x))),G') ∧ I (stp s l r x) lb' G' ∧ G'[p]? = G[p]? ∧ p ≠ lb'

section
variable {σ : Type} {v : Int} {B N : Nat} {f : AV} {size : σ → Nat} {bad : σ → Bool} {stp : σ → Nat → Nat → Nat → σ} {I : σ → Nat → xAv → Prop}

def goX (bad : σ → Bool) (stp : σ → Nat → Nat → Nat → σ) (l r : Nat) : Nat → Nat → σ → σ
  | _,0,s => s
  | x,e + 1,s => if bad (stp s l r x) = true then stp s l r x else goX bad stp l r (x + 1) e (stp s l r x)
theorem xFX (h : ∀ s l r x,size s ≤ size (stp s l r x)) (l r : Nat) : ∀ e x s,size s ≤ size (goX bad stp l r x e s)
  | 0,_,s => Nat.le_refl _
  | e + 1,x,s => by
    unfold goX
    split
    · exact h s l r x
    · exact Nat.le_trans (h s l r x) (xFX h l r e (x + 1) _)

set_option maxHeartbeats 1000000 in
theorem yEe (hE : Exp v B N f size bad stp I) {l r p : Nat} {s5 s6 s26 s27 : AV} (hp : B ≤ p) : ∀ e x s lb G,x + e = two v → I s lb G → bad s = false → l < size s → r < size s → G[p]? = some (.cells false false [.int .i64 (l : Nat),.int .i64 (r : Nat)]) → p ≠ lb →
    ∃ G' lb' xx,L.loop xLP xTs ⟨xLQ (.int .i64 v) f (.int .i64 (size s : Nat)) s5 s6 (.ptr p 0) s26 s27 (.int .i64 (two v : Nat)) (.int .i64 (x : Nat)),G⟩ =
      some (.exit (if bad (goX bad stp l r x e s) = true then 0 else 6),⟨xLQ (.int .i64 v) f (.int .i64 (xJl (size (goX bad stp l r x e s)) (bad (goX bad stp l r x e s)))) s5 s6 (.ptr p 0) s26 s27 (.int .i64 (two v : Nat)) xx,G'⟩) ∧
      I (goX bad stp l r x e s) lb' G' := by
  intro e
  induction e with
  | zero =>
    intro x s lb G h hI hb hl hr hG hpl
    obtain rfl : x = two v := by omega
    refine ⟨G,lb,.int .i64 (two v : Nat),?_,hI⟩
    have hx8 := (xFe hE.v3).1
    simp only [goX,hb,xJl]
    rw [xQ1]
    simp (maxSteps := 30000000) (disch := first | assumption | omega | (simp only [List.length_cons,List.length_nil,List.length_append,List.length_set,List.length_replicate,List.length_map,List.length_range,List.length_take,List.length_drop,List.all_cons,List.all_nil,AV.isCell,Bool.and_self,Bool.and_true,xAh,xAb,xAe,xAa,xAa,xAJ,List.length_map] <;> omega) | rfl | decide) only [xLO,xAq,xAf,xAc,xAk,xAB,opv,List.getD_cons_succ,List.getD_cons_zero,xAw,Int.lt_irrefl,decide_false,xAm,xAr,List.set_cons_succ,List.set_cons_zero,xAi,xAg,xAj,xAd,xAp,xAl,Bool.false_eq_true,↓reduceIte,xBm,xA6,xAX,xIq]
  | succ e ih =>
    intro x s lb G h hI hb hl hr hG hpl
    have hx8 := (xFe hE.v3).1
    have hlt : (x : Int) < (two v : Nat) := by omega
    have hpg := (List.getElem?_eq_some_iff.1 hG).1
    obtain ⟨G1,lb1,c1,c2,c3,c4⟩ := hE.call s lb G l r x p hI hb hl hr (by omega) hp hpl hpg
    have hm := hE.mono s l r x
    unfold goX
    generalize stp s l r x = s' at *
    cases hb' : bad s' with
    | true =>
      rw [hb'] at c1
      refine ⟨G1,lb1,.int .i64 (x : Nat),?_,by simpa using c2⟩
      simp only [xJl,if_true] at c1 ⊢
      rw [xQ1]
      simp (maxSteps := 30000000) (disch := first | assumption | omega | (simp only [List.length_cons,List.length_nil,List.length_append,List.length_set,List.length_replicate,List.length_map,List.length_range,List.length_take,List.length_drop,List.all_cons,List.all_nil,AV.isCell,Bool.and_self,Bool.and_true,xAh,xAb,xAe,xAa,xAa,xAJ,List.length_map] <;> omega) | rfl | decide) only [xLO,xAq,xAf,xAc,xAk,xAB,opv,List.getD_cons_succ,List.getD_cons_zero,xAw,hlt,decide_true,xAm,xAr,List.set_cons_succ,List.set_cons_zero,xAi,xAg,xAj,xAd,xAp,xAl,↓reduceIte,xAx,xAs,xAz,xEs,xJZ,Int.toNat_zero,Nat.mul_one,Nat.add_zero,xAH,xA1,hG,xAu,List.drop_zero,List.take_succ_cons,List.take_zero,xAM,Int.toNat_one,Nat.zero_add,List.drop_succ_cons,List.take_nil,xCd,List.map_cons,List.map_nil,c1,Int.reduceNeg,Int.reduceLT,xBm,xAR,Nat.reduceEqDiff,xA6,xAX,xIq,hb']
    | false =>
      rw [hb'] at c1
      obtain ⟨G',lb',xx,f1,f2⟩ := ih (x + 1) s' lb1 G1 (by omega) c2 hb' (by omega) (by omega) (c3.trans hG) c4
      refine ⟨G',lb',xx,?_,by simpa using f2⟩
      have hnn : ¬ ((size s' : Nat) : Int) < 0 := by omega
      simp only [xJl,Bool.false_eq_true,if_false] at c1 f1 ⊢
      rw [xQ1]
      simp (maxSteps := 30000000) (disch := first | assumption | omega | (simp only [List.length_cons,List.length_nil,List.length_append,List.length_set,List.length_replicate,List.length_map,List.length_range,List.length_take,List.length_drop,List.all_cons,List.all_nil,AV.isCell,Bool.and_self,Bool.and_true,xAh,xAb,xAe,xAa,xAa,xAJ,List.length_map] <;> omega) | rfl | decide) only [xLO,xAq,xAf,xAc,xAk,xAB,opv,List.getD_cons_succ,List.getD_cons_zero,xAw,hlt,decide_true,xAm,xAr,List.set_cons_succ,List.set_cons_zero,xAi,xAg,xAj,xAd,xAp,xAl,↓reduceIte,xAx,xAs,xAz,xEs,xJZ,Int.toNat_zero,Nat.mul_one,Nat.add_zero,xAH,xA1,hG,xAu,List.drop_zero,List.take_succ_cons,List.take_zero,xAM,Int.toNat_one,Nat.zero_add,List.drop_succ_cons,List.take_nil,xCd,List.map_cons,List.map_nil,c1,hnn,decide_false,Bool.false_eq_true,xAt,xBf,xB6,xCQ,xAy,xIq,f1,Int.reduceNeg]
end
end Go.Abs.Det

/- explore,over any call. -/
namespace Go.Abs.Det
open Go Go.Abs
set_option linter.unusedSimpArgs false
set_option linter.unusedVariables false

section
variable {σ : Type} {v : Int} {B N : Nat} {f : AV} {size : σ → Nat} {bad : σ → Bool} {stp : σ → Nat → Nat → Nat → σ} {I : σ → Nat → xAv → Prop}

def goP (bad : σ → Bool) (stp : σ → Nat → Nat → Nat → σ) (n j k : Nat) (s : σ) : σ :=
  if bad (goX bad stp j k 0 n s) = true then goX bad stp j k 0 n s else goX bad stp k j 0 n (goX bad stp j k 0 n s)
def goJ (bad : σ → Bool) (stp : σ → Nat → Nat → Nat → σ) (n k : Nat) : Nat → Nat → σ → σ
  | _,0,s => s
  | j,e + 1,s => if bad (goP bad stp n j k s) = true then goP bad stp n j k s else goJ bad stp n k (j + 1) e (goP bad stp n j k s)
def goK (size : σ → Nat) (bad : σ → Bool) (stp : σ → Nat → Nat → Nat → σ) (n : Nat) : Nat → Nat → σ → σ
  | _,0,s => s
  | k,e + 1,s => if k < size s then (if bad (goJ bad stp n k 0 (k + 1) s) = true then goJ bad stp n k 0 (k + 1) s else goK size bad stp n (k + 1) e (goJ bad stp n k 0 (k + 1) s)) else s
theorem xH5 (h : ∀ s l r x,size s ≤ size (stp s l r x)) (n j k : Nat) (s : σ) : size s ≤ size (goP bad stp n j k s) := by
  unfold goP
  split
  · exact xFX h j k n 0 s
  · exact Nat.le_trans (xFX h j k n 0 s) (xFX h k j n 0 _)

set_option maxHeartbeats 1000000 in
theorem yCL (hE : Exp v B N f size bad stp I) {j k : Nat} {s5 s6 : AV} {s : σ} {lb : Nat} {G : xAv} (hI : I s lb G) (hb : bad s = false) (hj : j < size s) (hk : k < size s) :
    ∃ G' lb' yy,L.loop xIs xPw ⟨xGF (.int .i64 v) f (.int .i64 (size s : Nat)) s5 s6 (.agg [.int .i64 (j : Nat),.int .i64 (k : Nat),.int .i64 (k : Nat),.int .i64 (j : Nat)]) (.int .i64 1),G⟩ =
      some (.exit (if bad (goX bad stp k j 0 (two v) s) = true then 0 else 4),⟨xGF (.int .i64 v) f (.int .i64 (xJl (size (goX bad stp k j 0 (two v) s)) (bad (goX bad stp k j 0 (two v) s)))) s5 s6 (.agg [.int .i64 (j : Nat),.int .i64 (k : Nat),.int .i64 (k : Nat),.int .i64 (j : Nat)]) yy,G'⟩) ∧
      I (goX bad stp k j 0 (two v) s) lb' G' := by
  have hlb := hE.lb s lb G hI
  have hsh := xJi hE.v0 hE.v3
  have hv : ¬ v < 0 := by have := hE.v0; omega
  obtain ⟨G',lb',xx,f1,f2⟩ := yEe hE (l := k) (r := j) (p := G.length) (s5 := s5) (s6 := s6) (s26 := .agg [.int .i64 (j : Nat),.int .i64 (k : Nat),.int .i64 (k : Nat),.int .i64 (j : Nat)]) (s27 := .int .i64 1) hlb.2 (two v) 0 s lb
    (G ++ [.cells false false [.int .i64 (k : Nat),.int .i64 (j : Nat)]]) (by omega) (hE.grow _ _ _ _ hI) hb hk hj (xCy _ _) (by omega)
  generalize goX bad stp k j 0 (two v) s = s' at *
  have e2 : L.loop xIs xPw ⟨xGF (.int .i64 v) f (.int .i64 (size s' : Nat)) s5 s6 (.agg [.int .i64 (j : Nat),.int .i64 (k : Nat),.int .i64 (k : Nat),.int .i64 (j : Nat)]) (.int .i64 2),G'⟩ = some (.exit 4,⟨xGF (.int .i64 v) f (.int .i64 (size s' : Nat)) s5 s6 (.agg [.int .i64 (j : Nat),.int .i64 (k : Nat),.int .i64 (k : Nat),.int .i64 (j : Nat)]) (.int .i64 2),G'⟩) := by
    rw [xLR]
    simp (maxSteps := 30000000) (disch := first | assumption | omega | (simp only [List.length_cons,List.length_nil,List.length_append,List.length_set,List.length_replicate,List.length_map,List.length_range,List.length_take,List.length_drop,List.all_cons,List.all_nil,AV.isCell,Bool.and_self,Bool.and_true,xAh,xAb,xAe,xAa,xAa,xAJ,List.length_map] <;> omega) | rfl | decide) only [xIr,xAq,xAf,xAc,xAk,xAB,opv,List.getD_cons_succ,List.getD_cons_zero,xAw,Int.lt_irrefl,decide_false,xAm,xAr,List.set_cons_succ,List.set_cons_zero,xAi,xAg,xAj,xAd,xAp,xAl,Bool.false_eq_true,↓reduceIte,xBm,xA6,xAX,xIt]
  simp only [Int.natCast_zero] at f1
  cases hb' : bad s' with
  | true =>
    rw [hb'] at f1
    refine ⟨G',lb',.int .i64 1,?_,f2⟩
    simp only [xJl,if_true] at f1 ⊢
    rw [xLR]
    simp (maxSteps := 30000000) (disch := first | assumption | omega | (simp only [List.length_cons,List.length_nil,List.length_append,List.length_set,List.length_replicate,List.length_map,List.length_range,List.length_take,List.length_drop,List.all_cons,List.all_nil,AV.isCell,Bool.and_self,Bool.and_true,xAh,xAb,xAe,xAa,xAa,xAJ,List.length_map] <;> omega) | rfl | decide) only [xIr,xAq,xAf,xAc,xAk,xAB,opv,List.getD_cons_succ,List.getD_cons_zero,xAw,Int.reduceLT,decide_true,xAm,xAr,List.set_cons_succ,List.set_cons_zero,xAi,xAg,xAj,xAd,xAp,xAl,↓reduceIte,xAx,xAs,xGN,xD5,Int.toNat_one,Nat.reduceMul,List.drop_succ_cons,List.drop_zero,List.take_succ_cons,List.take_nil,xFm,xBv,AV.cells,List.all_cons,AV.isCell,List.all_nil,Bool.and_self,xBe,List.length_cons,List.length_nil,Nat.zero_add,Nat.reduceAdd,xBJ,xCy,List.getElem?_cons_zero,xAZ,xBl,List.take_zero,List.nil_append,List.drop_nil,List.append_nil,xC1,xAN,xBq,xAz,xCv,hsh,xA7,xIq,f1,Int.reduceNeg,xAR,Nat.reduceEqDiff,xA6,xAX,xIt]
  | false =>
    rw [hb'] at f1
    refine ⟨G',lb',.int .i64 2,?_,f2⟩
    simp only [xJl,Bool.false_eq_true,if_false] at f1 ⊢
    rw [xLR]
    simp (maxSteps := 30000000) (disch := first | assumption | omega | (simp only [List.length_cons,List.length_nil,List.length_append,List.length_set,List.length_replicate,List.length_map,List.length_range,List.length_take,List.length_drop,List.all_cons,List.all_nil,AV.isCell,Bool.and_self,Bool.and_true,xAh,xAb,xAe,xAa,xAa,xAJ,List.length_map] <;> omega) | rfl | decide) only [xIr,xAq,xAf,xAc,xAk,xAB,opv,List.getD_cons_succ,List.getD_cons_zero,xAw,Int.reduceLT,decide_true,xAm,xAr,List.set_cons_succ,List.set_cons_zero,xAi,xAg,xAj,xAd,xAp,xAl,↓reduceIte,xAx,xAs,xGN,xD5,Int.toNat_one,Nat.reduceMul,List.drop_succ_cons,List.drop_zero,List.take_succ_cons,List.take_nil,xFm,xBv,AV.cells,List.all_cons,AV.isCell,List.all_nil,Bool.and_self,xBe,List.length_cons,List.length_nil,Nat.zero_add,Nat.reduceAdd,xBJ,xCy,List.getElem?_cons_zero,xAZ,xBl,List.take_zero,List.nil_append,List.drop_nil,List.append_nil,xC1,xAN,xBq,xAz,xCv,hsh,xA7,xIq,f1,xAR,xAt,xBf,Int.reduceAdd,xCQ,xAy,xIt,e2]

set_option maxHeartbeats 1000000 in
theorem yFa (hE : Exp v B N f size bad stp I) {j k : Nat} {s5 s6 : AV} {s : σ} {lb : Nat} {G : xAv} (hI : I s lb G) (hb : bad s = false) (hj : j < size s) (hk : k < size s) :
    ∃ G' lb' yy,L.loop xIs xPw ⟨xGF (.int .i64 v) f (.int .i64 (size s : Nat)) s5 s6 (.agg [.int .i64 (j : Nat),.int .i64 (k : Nat),.int .i64 (k : Nat),.int .i64 (j : Nat)]) (.int .i64 0),G⟩ =
      some (.exit (if bad (goP bad stp (two v) j k s) = true then 0 else 4),⟨xGF (.int .i64 v) f (.int .i64 (xJl (size (goP bad stp (two v) j k s)) (bad (goP bad stp (two v) j k s)))) s5 s6 (.agg [.int .i64 (j : Nat),.int .i64 (k : Nat),.int .i64 (k : Nat),.int .i64 (j : Nat)]) yy,G'⟩) ∧
      I (goP bad stp (two v) j k s) lb' G' := by
  have hlb := hE.lb s lb G hI
  have hsh := xJi hE.v0 hE.v3
  have hv : ¬ v < 0 := by have := hE.v0; omega
  obtain ⟨G',lb',xx,f1,f2⟩ := yEe hE (l := j) (r := k) (p := G.length) (s5 := s5) (s6 := s6) (s26 := .agg [.int .i64 (j : Nat),.int .i64 (k : Nat),.int .i64 (k : Nat),.int .i64 (j : Nat)]) (s27 := .int .i64 0) hlb.2 (two v) 0 s lb
    (G ++ [.cells false false [.int .i64 (j : Nat),.int .i64 (k : Nat)]]) (by omega) (hE.grow _ _ _ _ hI) hb hj hk (xCy _ _) (by omega)
  have hm := xFX (bad := bad) hE.mono j k (two v) 0 s
  unfold goP
  generalize goX bad stp j k 0 (two v) s = s' at *
  simp only [Int.natCast_zero] at f1
  cases hb' : bad s' with
  | true =>
    rw [hb'] at f1
    refine ⟨G',lb',.int .i64 0,?_,by simpa using f2⟩
    simp only [xJl,if_true,hb'] at f1 ⊢
    rw [xLR]
    simp (maxSteps := 30000000) (disch := first | assumption | omega | (simp only [List.length_cons,List.length_nil,List.length_append,List.length_set,List.length_replicate,List.length_map,List.length_range,List.length_take,List.length_drop,List.all_cons,List.all_nil,AV.isCell,Bool.and_self,Bool.and_true,xAh,xAb,xAe,xAa,xAa,xAJ,List.length_map] <;> omega) | rfl | decide) only [xIr,xAq,xAf,xAc,xAk,xAB,opv,List.getD_cons_succ,List.getD_cons_zero,xAw,Int.reduceLT,decide_true,xAm,xAr,List.set_cons_succ,List.set_cons_zero,xAi,xAg,xAj,xAd,xAp,xAl,↓reduceIte,xAx,xAs,xGN,xD5,Int.toNat_zero,Nat.reduceMul,List.drop_zero,List.take_succ_cons,List.take_zero,xFm,xBv,AV.cells,List.all_cons,AV.isCell,List.all_nil,Bool.and_self,xBe,List.length_cons,List.length_nil,Nat.zero_add,Nat.reduceAdd,xBJ,xCy,List.getElem?_cons_zero,xAZ,xBl,List.nil_append,List.drop_succ_cons,List.drop_nil,List.append_nil,xC1,xAN,xBq,xAz,xCv,hsh,xA7,xIq,f1,Int.reduceNeg,xAR,Nat.reduceEqDiff,xA6,xAX,xIt]
  | false =>
    rw [hb'] at f1
    obtain ⟨G2,lb2,yy,g1,g2⟩ := yCL (s5 := s5) (s6 := s6) hE f2 hb' (show j < size s' by omega) (show k < size s' by omega)
    refine ⟨G2,lb2,yy,?_,by simpa using g2⟩
    simp only [Bool.false_eq_true,if_false] at f1 g1 ⊢
    generalize hrr : xJl (size s') false = rr at f1
    have hrr' : rr = ((size s' : Nat) : Int) := by rw [← hrr]; rfl
    subst hrr'
    generalize goX bad stp k j 0 (two v) s' = s2 at *
    generalize xJl (size s2) (bad s2) = w at *
    rw [xLR]
    simp (maxSteps := 30000000) (disch := first | assumption | omega | (simp only [List.length_cons,List.length_nil,List.length_append,List.length_set,List.length_replicate,List.length_map,List.length_range,List.length_take,List.length_drop,List.all_cons,List.all_nil,AV.isCell,Bool.and_self,Bool.and_true,xAh,xAb,xAe,xAa,xAa,xAJ,List.length_map] <;> omega) | rfl | decide) only [xIr,xAq,xAf,xAc,xAk,xAB,opv,List.getD_cons_succ,List.getD_cons_zero,xAw,Int.reduceLT,decide_true,xAm,xAr,List.set_cons_succ,List.set_cons_zero,xAi,xAg,xAj,xAd,xAp,xAl,↓reduceIte,xAx,xAs,xGN,xD5,Int.toNat_zero,Nat.reduceMul,List.drop_zero,List.take_succ_cons,List.take_zero,xFm,xBv,AV.cells,List.all_cons,AV.isCell,List.all_nil,Bool.and_self,xBe,List.length_cons,List.length_nil,Nat.zero_add,Nat.reduceAdd,xBJ,xCy,List.getElem?_cons_zero,xAZ,xBl,List.nil_append,List.drop_succ_cons,List.drop_nil,List.append_nil,xC1,xAN,xBq,xAz,xCv,hsh,xA7,xIq,f1,xAR,xAt,xBf,Int.zero_add,xCQ,xAy,xIt,g1]
end
end Go.Abs.Det

/- explore,over any call: the whole. -/
namespace Go.Abs.Det
open Go Go.Abs
set_option linter.unusedSimpArgs false
set_option linter.unusedVariables false

section
variable {σ : Type} {v : Int} {B N : Nat} {f : AV} {size : σ → Nat} {bad : σ → Bool} {stp : σ → Nat → Nat → Nat → σ} {I : σ → Nat → xAv → Prop}

theorem xPf (h : ∀ s l r x,size s ≤ size (stp s l r x)) (n k : Nat) : ∀ e j s,size s ≤ size (goJ bad stp n k j e s)
  | 0,_,s => Nat.le_refl _
  | e + 1,j,s => by
    unfold goJ
    split
    · exact xH5 h n j k s
    · exact Nat.le_trans (xH5 h n j k s) (xPf h n k e (j + 1) _)

set_option maxHeartbeats 1000000 in
theorem yFb (hE : Exp v B N f size bad stp I) {k : Nat} : ∀ e j s lb G,j + e = k + 1 → I s lb G → bad s = false → k < size s →
    ∃ G' lb' yy,L.loop xLT xTt ⟨xLU (.int .i64 v) f (.int .i64 (size s : Nat)) (.int .i64 (k : Nat)) (.int .i64 (j : Nat)),G⟩ =
      some (.exit (if bad (goJ bad stp (two v) k j e s) = true then 0 else 2),⟨xLU (.int .i64 v) f (.int .i64 (xJl (size (goJ bad stp (two v) k j e s)) (bad (goJ bad stp (two v) k j e s)))) (.int .i64 (k : Nat)) yy,G'⟩) ∧
      I (goJ bad stp (two v) k j e s) lb' G' := by
  intro e
  induction e with
  | zero =>
    intro j s lb G h hI hb hk
    obtain rfl : j = k + 1 := by omega
    have hle := hE.le s lb G hI hb
    have n64 := hE.n64
    refine ⟨G,lb,.int .i64 ((k + 1 : Nat) : Int),?_,hI⟩
    have c : ¬ (((k + 1 : Nat) : Int) ≤ (k : Nat)) := by omega
    simp only [goJ,hb,xJl]
    rw [xQ2]
    simp (maxSteps := 30000000) (disch := first | assumption | omega | (simp only [List.length_cons,List.length_nil,List.length_append,List.length_set,List.length_replicate,List.length_map,List.length_range,List.length_take,List.length_drop,List.all_cons,List.all_nil,AV.isCell,Bool.and_self,Bool.and_true,xAh,xAb,xAe,xAa,xAa,xAJ,List.length_map] <;> omega) | rfl | decide) only [xLS,xAq,xAf,xAc,xAk,xAz,opv,List.getD_cons_succ,List.getD_cons_zero,xAr,List.set_cons_succ,List.set_cons_zero,xAi,xAB,xDF,c,decide_false,xAm,xAg,xAj,xAd,xAp,xAl,Bool.false_eq_true,↓reduceIte,xBm,xA6,xAX,xLV]
  | succ e ih =>
    intro j s lb G h hI hb hk
    have hle := hE.le s lb G hI hb
    have n64 := hE.n64
    have hlt : ((j : Nat) : Int) ≤ (k : Nat) := by omega
    obtain ⟨G1,lb1,yy,f1,f2⟩ := yFa (s5 := .int .i64 (k : Nat)) (s6 := .int .i64 (j : Nat)) hE hI hb (show j < size s by omega) hk
    have hm := xH5 (bad := bad) hE.mono (two v) j k s
    unfold goJ
    generalize goP bad stp (two v) j k s = s' at *
    cases hb' : bad s' with
    | true =>
      rw [hb'] at f1
      refine ⟨G1,lb1,.int .i64 (j : Nat),?_,by simpa using f2⟩
      simp only [xJl,if_true,hb'] at f1 ⊢
      rw [xQ2]
      simp (maxSteps := 30000000) (disch := first | assumption | omega | (simp only [List.length_cons,List.length_nil,List.length_append,List.length_set,List.length_replicate,List.length_map,List.length_range,List.length_take,List.length_drop,List.all_cons,List.all_nil,AV.isCell,Bool.and_self,Bool.and_true,xAh,xAb,xAe,xAa,xAa,xAJ,List.length_map] <;> omega) | rfl | decide) only [xLS,xAq,xAf,xAc,xAk,xAz,opv,List.getD_cons_succ,List.getD_cons_zero,xAr,List.set_cons_succ,List.set_cons_zero,xAi,xAB,xDF,hlt,decide_true,xAm,xAg,xAj,xAd,xAp,xAl,↓reduceIte,xAx,xAs,xCh,AV.cells,List.all_cons,List.length_cons,List.length_nil,Nat.zero_add,beq_self_eq_true,List.all_nil,Bool.and_self,List.map_cons,List.map_nil,xCm,Nat.reduceAdd,Nat.reduceLeDiff,AV.isCell,and_self,xBl,List.take_zero,List.nil_append,List.drop_succ_cons,List.drop_zero,List.cons_append,Nat.le_refl,List.take_succ_cons,List.drop_nil,List.append_nil,Option.map_some,xA7,xIt,f1,Int.reduceNeg,xAR,Nat.reduceEqDiff,xA6,xAX,xLV]
    | false =>
      rw [hb'] at f1
      obtain ⟨G2,lb2,zz,g1,g2⟩ := ih (j + 1) s' lb1 G1 (by omega) f2 hb' (by omega)
      refine ⟨G2,lb2,zz,?_,by simpa using g2⟩
      simp only [Bool.false_eq_true,if_false] at f1 g1 ⊢
      generalize hrr : xJl (size s') false = rr at f1
      have hrr' : rr = ((size s' : Nat) : Int) := by rw [← hrr]; rfl
      subst hrr'
      generalize goJ bad stp (two v) k (j + 1) e s' = s2 at *
      generalize xJl (size s2) (bad s2) = w at *
      rw [xQ2]
      simp (maxSteps := 30000000) (disch := first | assumption | omega | (simp only [List.length_cons,List.length_nil,List.length_append,List.length_set,List.length_replicate,List.length_map,List.length_range,List.length_take,List.length_drop,List.all_cons,List.all_nil,AV.isCell,Bool.and_self,Bool.and_true,xAh,xAb,xAe,xAa,xAa,xAJ,List.length_map] <;> omega) | rfl | decide) only [xLS,xAq,xAf,xAc,xAk,xAz,opv,List.getD_cons_succ,List.getD_cons_zero,xAr,List.set_cons_succ,List.set_cons_zero,xAi,xAB,xDF,hlt,decide_true,xAm,xAg,xAj,xAd,xAp,xAl,↓reduceIte,xAx,xAs,xCh,AV.cells,List.all_cons,List.length_cons,List.length_nil,Nat.zero_add,beq_self_eq_true,List.all_nil,Bool.and_self,List.map_cons,List.map_nil,xCm,Nat.reduceAdd,Nat.reduceLeDiff,AV.isCell,and_self,xBl,List.take_zero,List.nil_append,List.drop_succ_cons,List.drop_zero,List.cons_append,Nat.le_refl,List.take_succ_cons,List.drop_nil,List.append_nil,Option.map_some,xA7,xIt,f1,xAR,xAt,xBf,xB6,xCQ,xAy,xLV,g1]

set_option maxHeartbeats 1000000 in
theorem yFc (hE : Exp v B N f size bad stp I) : ∀ e k s lb G,k + e = N → I s lb G → bad s = false →
    ∃ G' lb' zz yy,L.loop xLW xTu ⟨xLX (.int .i64 v) f (.int .i64 (size s : Nat)) (.int .i64 (k : Nat)),G⟩ =
      some (.exit 0,⟨xLX (.int .i64 v) f zz yy,G'⟩) ∧
      I (goK size bad stp (two v) k e s) lb' G' := by
  intro e
  induction e with
  | zero =>
    intro k s lb G h hI hb
    have hle := hE.le s lb G hI hb
    have n64 := hE.n64
    have c : ¬ ((k : Nat) : Int) < (size s : Nat) := by omega
    refine ⟨G,lb,.int .i64 (size s : Nat),.int .i64 (k : Nat),?_,hI⟩
    rw [xOF]
    simp (maxSteps := 30000000) (disch := first | assumption | omega | (simp only [List.length_cons,List.length_nil,List.length_append,List.length_set,List.length_replicate,List.length_map,List.length_range,List.length_take,List.length_drop,List.all_cons,List.all_nil,AV.isCell,Bool.and_self,Bool.and_true,xAh,xAb,xAe,xAa,xAa,xAJ,List.length_map] <;> omega) | rfl | decide) only [xJR,xAq,xAf,xAc,xAk,xAz,opv,List.getD_cons_succ,List.getD_cons_zero,xAr,List.set_cons_succ,List.set_cons_zero,xAi,xAB,xAw,c,decide_false,xAm,xAg,xAj,xAd,xAp,xAl,Bool.false_eq_true,↓reduceIte,xBm,xA6,xAX,xLY]
  | succ e ih =>
    intro k s lb G h hI hb
    have hle := hE.le s lb G hI hb
    have n64 := hE.n64
    unfold goK
    by_cases c : k < size s
    · rw [if_pos c]
      have hlt : ((k : Nat) : Int) < (size s : Nat) := by omega
      obtain ⟨G1,lb1,yy,f1,f2⟩ := yFb hE (k + 1) 0 s lb G (by omega) hI hb c
      generalize goJ bad stp (two v) k 0 (k + 1) s = s' at *
      simp only [Int.natCast_zero] at f1
      cases hb' : bad s' with
      | true =>
        rw [hb'] at f1
        refine ⟨G1,lb1,.int .i64 (-1),.int .i64 (k : Nat),?_,by simpa using f2⟩
        simp only [xJl,if_true,hb'] at f1 ⊢
        rw [xOF]
        simp (maxSteps := 30000000) (disch := first | assumption | omega | (simp only [List.length_cons,List.length_nil,List.length_append,List.length_set,List.length_replicate,List.length_map,List.length_range,List.length_take,List.length_drop,List.all_cons,List.all_nil,AV.isCell,Bool.and_self,Bool.and_true,xAh,xAb,xAe,xAa,xAa,xAJ,List.length_map] <;> omega) | rfl | decide) only [xJR,xAq,xAf,xAc,xAk,xAz,opv,List.getD_cons_succ,List.getD_cons_zero,xAr,List.set_cons_succ,List.set_cons_zero,xAi,xAB,xAw,hlt,decide_true,xAm,xAg,xAj,xAd,xAp,xAl,↓reduceIte,xAx,xAs,xA7,xLV,f1,Int.reduceNeg,xAR,Nat.reduceEqDiff,xA6,xAX,xLY]
      | false =>
        rw [hb'] at f1
        obtain ⟨G2,lb2,zz,ww,g1,g2⟩ := ih (k + 1) s' lb1 G1 (by omega) f2 hb'
        refine ⟨G2,lb2,zz,ww,?_,by simpa using g2⟩
        simp only [Bool.false_eq_true,if_false,xJl] at f1 g1 ⊢
        rw [xOF]
        simp (maxSteps := 30000000) (disch := first | assumption | omega | (simp only [List.length_cons,List.length_nil,List.length_append,List.length_set,List.length_replicate,List.length_map,List.length_range,List.length_take,List.length_drop,List.all_cons,List.all_nil,AV.isCell,Bool.and_self,Bool.and_true,xAh,xAb,xAe,xAa,xAa,xAJ,List.length_map] <;> omega) | rfl | decide) only [xJR,xAq,xAf,xAc,xAk,xAz,opv,List.getD_cons_succ,List.getD_cons_zero,xAr,List.set_cons_succ,List.set_cons_zero,xAi,xAB,xAw,hlt,decide_true,xAm,xAg,xAj,xAd,xAp,xAl,↓reduceIte,xAx,xAs,xA7,xLV,f1,xAR,xAt,xBf,xB6,xCQ,xAy,xLY,g1]
    · rw [if_neg c]
      have c' : ¬ ((k : Nat) : Int) < (size s : Nat) := by omega
      refine ⟨G,lb,.int .i64 (size s : Nat),.int .i64 (k : Nat),?_,hI⟩
      rw [xOF]
      simp (maxSteps := 30000000) (disch := first | assumption | omega | (simp only [List.length_cons,List.length_nil,List.length_append,List.length_set,List.length_replicate,List.length_map,List.length_range,List.length_take,List.length_drop,List.all_cons,List.all_nil,AV.isCell,Bool.and_self,Bool.and_true,xAh,xAb,xAe,xAa,xAa,xAJ,List.length_map] <;> omega) | rfl | decide) only [xJR,xAq,xAf,xAc,xAk,xAz,opv,List.getD_cons_succ,List.getD_cons_zero,xAr,List.set_cons_succ,List.set_cons_zero,xAi,xAB,xAw,c',decide_false,xAm,xAg,xAj,xAd,xAp,xAl,Bool.false_eq_true,↓reduceIte,xBm,xA6,xAX,xLY]

theorem xSJ (hE : Exp v B N f size bad stp I) {s : σ} {lb : Nat} {G : xAv} (hI : I s lb G) (hb : bad s = false) (h1 : size s = 1) :
    ∃ G' lb',L.icall (.func 75 []) [.int .i64 v,f] G = some (.tup [],G') ∧ I (goK size bad stp (two v) 0 N s) lb' G' := by
  obtain ⟨G',lb',zz,yy,f1,f2⟩ := yFc hE N 0 s lb G (by omega) hI hb
  refine ⟨G',lb',?_,f2⟩
  have h1' : ((size s : Nat) : Int) = 1 := by omega
  rw [h1'] at f1
  simp only [Int.natCast_zero] at f1
  rw [yEx,a75,xAT]
  simp (maxSteps := 30000000) (disch := first | assumption | omega | (simp only [List.length_cons,List.length_nil,List.length_append,List.length_set,List.length_replicate,List.length_map,List.length_range,List.length_take,List.length_drop,List.all_cons,List.all_nil,AV.isCell,Bool.and_self,Bool.and_true,xAh,xAb,xAe,xAa,xAa,xAJ,List.length_map] <;> omega) | rfl | decide) only [List.append_nil,List.length_cons,List.length_nil,Nat.zero_add,Nat.reduceAdd,Nat.reduceSub,xCF,List.cons_append,List.nil_append,xRg,xAq,xAf,xAc,xAk,xAz,opv,xAr,List.set_cons_succ,List.set_cons_zero,xAi,xAg,xAj,xAd,xRf,xAs,xA7,xLY,f1,xAR,↓reduceIte,xCx,xDi,xAD]
end
end Go.Abs.Det

/- renumber: its calls. -/
namespace Go.Abs.Det
open Go Go.Abs
set_option linter.unusedSimpArgs false
set_option linter.unusedVariables false

def yEf (D : Da) (o : List Int) (l r x : Nat) : List Int :=
  if nx D (o.getD l 0) (o.getD r 0) x ∈ o then o else o ++ [nx D (o.getD l 0) (o.getD r 0) x]
structure OrdOk (D : Da) (o : List Int) : Prop where
  nd : o.Nodup
  bd : ∀ s ∈ o,0 ≤ s ∧ s < D.next.length
theorem xUF : ∀ {o : List Int} {n : Nat},o.Nodup → (∀ s ∈ o,0 ≤ s ∧ s < (n : Int)) → o.length ≤ n := by
  intro o n hn hb
  refine xSP n o.length (fun i => (o.getD i 0).toNat) (fun i hi => ?_) (fun i j hi hj e => ?_)
  · have := hb _ (xCN (a := (0 : Int)) hi); omega
  · have h1 := hb _ (xCN (a := (0 : Int)) hi)
    have h2 := hb _ (xCN (a := (0 : Int)) hj)
    have h3 : o.getD i 0 = o.getD j 0 := by
      have e' : (o.getD i 0).toNat = (o.getD j 0).toNat := e
      omega
    rw [List.getD_eq_getElem?_getD,List.getD_eq_getElem?_getD,List.getElem?_eq_getElem hi,List.getElem?_eq_getElem hj] at h3
    have hp := List.pairwise_iff_getElem.1 hn
    have h4 : o[i] = o[j] := Option.some.inj (by simpa using h3)
    rcases Nat.lt_trichotomy i j with q | q | q
    · exact absurd h4 (hp i j hi hj q)
    · exact q
    · exact absurd h4.symm (hp j i hj hi q)
theorem OrdOk.le {D : Da} {o : List Int} (h : OrdOk D o) : o.length ≤ D.next.length := xUF h.nd h.bd
theorem OrdOk.step {D : Da} {o : List Int} (hV : Va D) (h : OrdOk D o) {l r x : Nat} (hl : l < o.length) (hr : r < o.length) (hx : x < two D.vars) : OrdOk D (yEf D o l r x) := by
  unfold yEf
  split
  · exact h
  · rename_i c
    refine ⟨?_,fun s hs => ?_⟩
    · rw [List.nodup_append]
      refine ⟨h.nd,by simp,fun a ha b hb => ?_⟩
      rw [List.mem_singleton] at hb
      subst hb
      intro e
      subst e
      exact c ha
    · rcases List.mem_append.1 hs with q | q
      · exact h.bd s q
      · rw [List.mem_singleton] at q
        subst q
        exact yCC hV (h.bd _ (xCN hl)) (h.bd _ (xCN hr)) hx

end Go.Abs.Det

/- renumber: explore over it; the reading calls. -/
namespace Go.Abs.Det
open Go Go.Abs
set_option linter.unusedSimpArgs false
set_option linter.unusedVariables false

end Go.Abs.Det

/- built: a row. -/
namespace Go.Abs.Det
open Go Go.Abs
set_option linter.unusedSimpArgs false
set_option linter.unusedVariables false

structure Rd (v : Int) (n B : Nat) (f g : AV) (nxt : Nat → Nat → Nat → Int) (fin : Nat → Bool) (J : xAv → Prop) : Prop where
  v0 : 0 ≤ v
  v3 : v ≤ 3
  n0 : 0 < n
  n64 : n ≤ 64
  keep : ∀ G G',J G → (∀ b,b < B → G'[b]? = G[b]?) → J G'
  nx : ∀ G (l r x : Nat),J G → l < n → r < n → x < two v → L.icall f [.int .i64 (l : Nat),.int .i64 (r : Nat),.int .i64 (x : Nat)] G = some (.int .i64 (nxt l r x),G)
  fn : ∀ G (l : Nat),J G → l < n → ∃ T : xAv,L.icall g [.int .i64 (l : Nat)] G = some (.bool (fin l),G ++ T)

def rvL (nxt : Nat → Nat → Nat → Int) (l r x : Nat) : List Int := (List.range x).map (nxt l r)
theorem xEI (nxt : Nat → Nat → Nat → Int) (l r x : Nat) : (rvL nxt l r x).length = x := by simp [rvL]
theorem xPg (nxt : Nat → Nat → Nat → Int) (l r x : Nat) : rvL nxt l r (x + 1) = rvL nxt l r x ++ [nxt l r x] := by
  unfold rvL; rw [List.range_succ,List.map_append]; rfl

section
variable {v : Int} {n B rb l r : Nat} {f g : AV} {nxt : Nat → Nat → Nat → Int} {fin : Nat → Bool} {J : xAv → Prop} {s8 s9 s16 s17 s23 s24 : AV}

set_option maxHeartbeats 1000000 in
theorem yCM (hR : Rd v n B f g nxt fin J) (hl : l < n) (hr : r < n) (hrb : B ≤ rb) : ∀ e x G cs id,x + e = two v → 1 ≤ x → J G → G[rb]? = some (.cells false false cs) → cs.length = n → cs[r]? = some (.own false id 0 x 1) → G[id]? = some (.cells false false (ints (rvL nxt l r x))) → id ≠ rb → B ≤ id →
    ∃ G' : xAv,∃ id',L.loop xJL xQQ ⟨xIm (.int .i64 v) (.int .i64 (n : Nat)) f g s8 s9 (.int .i64 (l : Nat)) (.own false rb 0 n 1) (.int .i64 (r : Nat)) s16 s17 s23 s24 (.int .i64 (two v : Nat)) (.int .i64 (x : Nat)),G⟩ =
      some (.exit 4,⟨xIm (.int .i64 v) (.int .i64 (n : Nat)) f g s8 s9 (.int .i64 (l : Nat)) (.own false rb 0 n 1) (.int .i64 (r : Nat)) s16 s17 s23 s24 (.int .i64 (two v : Nat)) (.int .i64 (two v : Nat)),G'⟩) ∧
      G'[rb]? = some (.cells false false (cs.set r (.own false id' 0 (two v) 1))) ∧ G'[id']? = some (.cells false false (ints (rvL nxt l r (two v)))) ∧ id' ≠ rb ∧ B ≤ id' ∧ (id' = id ∨ G.length ≤ id') ∧
      (∀ b,b < G.length → b ≠ rb → b ≠ id → G'[b]? = G[b]?) ∧ G.length ≤ G'.length := by
  intro e
  induction e with
  | zero =>
    intro x G cs id h hx1 hJ hG hcl hc hid hne hB
    obtain rfl : x = two v := by omega
    have h8 := (xFe hR.v3).1
    refine ⟨G,id,?_,?_,hid,hne,hB,.inl rfl,fun _ _ _ _ => rfl,Nat.le_refl _⟩
    · rw [xQR]
      simp (maxSteps := 30000000) (disch := first | assumption | omega | (simp only [List.length_cons,List.length_nil,List.length_append,List.length_set,List.length_replicate,List.length_map,List.length_range,List.length_take,List.length_drop,List.all_cons,List.all_nil,AV.isCell,Bool.and_self,Bool.and_true,xAh,xAb,xAe,xAa,xAa,xAJ,List.length_map] <;> omega) | rfl | decide) only [xLx,xAq,xAf,xAc,xAk,xAB,opv,List.getD_cons_succ,List.getD_cons_zero,xAw,Int.lt_irrefl,decide_false,xAm,xAr,List.set_cons_succ,List.set_cons_zero,xAi,xAg,xAj,xAd,xAp,xAl,Bool.false_eq_true,↓reduceIte,xBm,xA6,xAX,xOx]
    · obtain ⟨h1,h2⟩ := List.getElem?_eq_some_iff.1 hc
      rw [← h2,List.set_getElem_self]; exact hG
  | succ e ih =>
    intro x G cs id h hx1 hJ hG hcl hc hid hne hB
    have h8 := (xFe hR.v3).1
    have n64 := hR.n64
    have hlt : (x : Int) < (two v : Nat) := by omega
    have hrl := (List.getElem?_eq_some_iff.1 hG).1
    have hil := (List.getElem?_eq_some_iff.1 hid).1
    have hnx := hR.nx G l r x hJ hl hr (by omega)
    have hrv := xPg nxt l r x
    have hrl2 := xEI nxt l r x
    generalize nxt l r x = y at *
    obtain ⟨G1,hG1⟩ : ∃ G1 : xAv,G1 = (G.set id .dead ++ [Blk.cells false false (ints (rvL nxt l r x ++ [y]))]).set rb (.cells false false (cs.set r (.own false G.length 0 (x + 1) 1))) := ⟨_,rfl⟩
    have old : ∀ b,b < G.length → b ≠ rb → b ≠ id → G1[b]? = G[b]? := fun b h1 h2 h3 => by
      rw [hG1,List.getElem?_set_ne (Ne.symm h2),List.getElem?_append_left (by simpa using h1),List.getElem?_set_ne (Ne.symm h3)]
    have hlen1 : G1.length = G.length + 1 := by rw [hG1]; simp
    obtain ⟨G',id',f1,f2,f3,f4,f5,f6,f7,f8⟩ := ih (x + 1) G1 (cs.set r (.own false G.length 0 (x + 1) 1)) G.length (by omega) (by omega) (hR.keep G G1 hJ fun b hb => old b (by omega) (by omega) (by omega))
      (by rw [hG1]; exact List.getElem?_set_self (by simp; omega)) (by simpa using hcl) (List.getElem?_set_self (by omega))
      (by rw [hG1,hrv,List.getElem?_set_ne (by omega),List.getElem?_append_right (by simp)]; simp) (by omega) (by omega)
    refine ⟨G',id',?_,?_,f3,f4,f5,.inr (by omega),fun b h1 h2 h3 => by rw [f7 b (by omega) h2 (by omega),old b h1 h2 h3],by omega⟩
    · have gc : List.take 1 (List.drop r cs) = [.own false id 0 x 1] := by
        obtain ⟨h1,h2⟩ := List.getElem?_eq_some_iff.1 hc
        rw [List.drop_eq_getElem_cons h1,h2]; rfl
      have htk : List.take x (rvL nxt l r x) = rvL nxt l r x := List.take_of_length_le (by omega)
      have hints : ints (rvL nxt l r x) ++ [AV.int .i64 y] = ints (rvL nxt l r x ++ [y]) := by simp [ints]
      have zr : ∀ T : xAv,(G.set id .dead ++ T)[rb]? = some (.cells false false cs) := fun T => xBQ (by rw [List.getElem?_set_ne hne]; exact hG)
      have hsame : xER G G (.ptr rb r) 1 = true := by
        have h1 : rd G (.ptr rb r) 1 = some [.own false id 0 x 1] := by
          rw [xA1,hG,xAu (by omega),gc]
        simp [xER,h1,xR9]
      have hwr : ∀ X : AV,List.take r cs ++ X :: List.drop (r + 1) cs = cs.set r X := fun X => by rw [List.set_eq_take_append_cons_drop,if_pos (by omega)]
      rw [hG1] at f1
      rw [xQR]
      simp (maxSteps := 30000000) (disch := first | assumption | omega | (simp only [List.length_cons,List.length_nil,List.length_append,List.length_set,List.length_replicate,List.length_map,List.length_range,List.length_take,List.length_drop,List.all_cons,List.all_nil,AV.isCell,Bool.and_self,Bool.and_true,xAh,xAb,xAe,xAa,xAa,xAJ,List.length_map] <;> omega) | rfl | decide) only [xLx,xAq,xAf,xAc,xAk,xAB,opv,List.getD_cons_succ,List.getD_cons_zero,xAw,hlt,decide_true,xAm,xAr,List.set_cons_succ,List.set_cons_zero,xAi,xAg,xAj,xAd,xAp,xAl,↓reduceIte,xAx,xAs,xAz,xG8,List.take_succ_cons,List.take_zero,xEr,xJY,Bool.false_eq_true,xA5,xB4,xBj,xBp,xEY,xHI,xBL,xAW,xBG,Int.toNat_natCast,Nat.mul_one,Nat.zero_add,xEZ,xBE,xAH,xA1,hG,xAu,gc,xAM,xEX,xFQ,xE7,List.drop_succ_cons,List.drop_zero,xFP,xB8,xG9,Nat.reduceSub,xF1,xCd,List.map_cons,List.map_nil,hnx,xF0,hsame,xBY,AV.cells,List.all_cons,List.length_cons,List.length_nil,beq_self_eq_true,List.all_nil,Bool.and_self,xDh,List.append_nil,xCm,Nat.le_refl,AV.isCell,and_self,xBl,List.nil_append,List.drop_nil,xBX,xCn,xBP,List.flatMap_cons,xCp,List.flatMap_nil,List.isEmpty_nil,List.mapM_cons,xBa,List.mapM_nil,Option.pure_def,Option.bind_eq_bind,Option.bind_some,xCi,xBZ,xDs,xFN,hid,xEV,Nat.reduceBEq,xBR,htk,hints,xBe,xBJ,zr,xAZ,List.append_assoc,List.cons_append,hwr,xAN,xBq,xEU,xFZ,xAt,xBf,xB6,xCQ,xAy,xOx,f1]
    · rw [f2,List.set_set]
end
end Go.Abs.Det

/- built: the rows of a state. -/
namespace Go.Abs.Det
open Go Go.Abs
set_option linter.unusedSimpArgs false
set_option linter.unusedVariables false

section
variable {v : Int} {n B rb l : Nat} {f g : AV} {nxt : Nat → Nat → Nat → Int} {fin : Nat → Bool} {J : xAv → Prop} {s8 s9 s16 s17 s23 s24 : AV}

set_option maxHeartbeats 1000000 in
theorem xXV (hR : Rd v n B f g nxt fin J) {r : Nat} (hl : l < n) (hr : r < n) (hrb : B ≤ rb) {G : xAv} {cs : List AV} (hJ : J G) (hG : G[rb]? = some (.cells false false cs)) (hcl : cs.length = n) (hc : cs[r]? = some (.sl true 0 [])) :
    ∃ G' : xAv,∃ id',L.loop xJL xQQ ⟨xIm (.int .i64 v) (.int .i64 (n : Nat)) f g s8 s9 (.int .i64 (l : Nat)) (.own false rb 0 n 1) (.int .i64 (r : Nat)) s16 s17 s23 s24 (.int .i64 (two v : Nat)) (.int .i64 0),G⟩ =
      some (.exit 4,⟨xIm (.int .i64 v) (.int .i64 (n : Nat)) f g s8 s9 (.int .i64 (l : Nat)) (.own false rb 0 n 1) (.int .i64 (r : Nat)) s16 s17 s23 s24 (.int .i64 (two v : Nat)) (.int .i64 (two v : Nat)),G'⟩) ∧
      G'[rb]? = some (.cells false false (cs.set r (.own false id' 0 (two v) 1))) ∧ G'[id']? = some (.cells false false (ints (rvL nxt l r (two v)))) ∧ id' ≠ rb ∧ G.length ≤ id' ∧
      (∀ b,b < G.length → b ≠ rb → G'[b]? = G[b]?) ∧ G.length ≤ G'.length := by
  have h8 := (xFe hR.v3).1
  have h80 := (xFe hR.v3).2
  have n64 := hR.n64
  have hrl := (List.getElem?_eq_some_iff.1 hG).1
  have hnx := hR.nx G l r 0 hJ hl hr h80
  have hrv : rvL nxt l r 1 = [nxt l r 0] := rfl
  generalize nxt l r 0 = y at *
  obtain ⟨G1,hG1⟩ : ∃ G1 : xAv,G1 = (G ++ [Blk.cells false false [AV.int .i64 y]]).set rb (.cells false false (cs.set r (.own false G.length 0 1 1))) := ⟨_,rfl⟩
  have old : ∀ b,b < G.length → b ≠ rb → G1[b]? = G[b]? := fun b h1 h2 => by
    rw [hG1,List.getElem?_set_ne (Ne.symm h2),List.getElem?_append_left h1]
  have hlen1 : G1.length = G.length + 1 := by rw [hG1]; simp
  obtain ⟨G',id',f1,f2,f3,f4,f5,f6,f7,f8⟩ := yCM (s8 := s8) (s9 := s9) (s16 := s16) (s17 := s17) (s23 := s23) (s24 := s24) hR hl hr hrb (two v - 1) 1 G1 (cs.set r (.own false G.length 0 1 1)) G.length (by omega) (Nat.le_refl _) (hR.keep G G1 hJ fun b hb => old b (by omega) (by omega))
    (by rw [hG1]; exact List.getElem?_set_self (by simp; omega)) (by simpa using hcl) (List.getElem?_set_self (by omega))
    (by rw [hG1,hrv,List.getElem?_set_ne (by omega)]; simp [ints]) (by omega) (by omega)
  refine ⟨G',id',?_,by rw [f2,List.set_set],f3,f4,by omega,fun b h1 h2 => by rw [f7 b (by omega) h2 (by omega),old b h1 h2],by omega⟩
  have gc : List.take 1 (List.drop r cs) = [.sl true 0 []] := by
    obtain ⟨h1,h2⟩ := List.getElem?_eq_some_iff.1 hc
    rw [List.drop_eq_getElem_cons h1,h2]; rfl
  have hsame : xER G G (.ptr rb r) 1 = true := by
    have h1 : rd G (.ptr rb r) 1 = some [.sl true 0 []] := by
      rw [xA1,hG,xAu (by omega),gc]
    simp [xER,h1,xR9]
  have hwr : ∀ X : AV,List.take r cs ++ X :: List.drop (r + 1) cs = cs.set r X := fun X => by rw [List.set_eq_take_append_cons_drop,if_pos (by omega)]
  have zr : ∀ T : xAv,(G ++ T)[rb]? = some (.cells false false cs) := fun T => xBQ hG
  have hlt : (0 : Int) < (two v : Nat) := by omega
  rw [hG1] at f1
  simp only [Int.natCast_zero,Int.natCast_one] at f1 hnx
  rw [xQR]
  simp (maxSteps := 30000000) (disch := first | assumption | omega | (simp only [List.length_cons,List.length_nil,List.length_append,List.length_set,List.length_replicate,List.length_map,List.length_range,List.length_take,List.length_drop,List.all_cons,List.all_nil,AV.isCell,Bool.and_self,Bool.and_true,xAh,xAb,xAe,xAa,xAa,xAJ,List.length_map] <;> omega) | rfl | decide) only [xLx,xAq,xAf,xAc,xAk,xAB,opv,List.getD_cons_succ,List.getD_cons_zero,xAw,hlt,decide_true,xAm,xAr,List.set_cons_succ,List.set_cons_zero,xAi,xAg,xAj,xAd,xAp,xAl,↓reduceIte,xAx,xAs,xAz,xG8,List.take_succ_cons,List.take_zero,xEr,xJY,Bool.false_eq_true,xA5,xB4,xBj,xBp,xEY,xHI,xBL,xAW,xBG,Int.toNat_natCast,Nat.mul_one,Nat.zero_add,xEZ,xBE,xAH,xA1,hG,xAu,gc,xAM,xEX,xFQ,xE7,List.drop_succ_cons,List.drop_zero,xFP,xB8,xG9,Nat.reduceSub,xF1,xCd,List.map_cons,List.map_nil,hnx,xF0,hsame,xBY,AV.cells,List.all_cons,List.length_cons,List.length_nil,beq_self_eq_true,List.all_nil,Bool.and_self,xDh,List.append_nil,xCm,Nat.le_refl,AV.isCell,and_self,xBl,List.nil_append,List.drop_nil,xBX,xCn,xBP,List.flatMap_cons,xCp,List.flatMap_nil,List.isEmpty_nil,List.mapM_cons,xBa,List.mapM_nil,Option.pure_def,Option.bind_eq_bind,Option.bind_some,xCi,xBZ,xDs,xEq,Nat.reduceBEq,xC8,xBe,xBJ,zr,xAZ,List.append_assoc,List.cons_append,hwr,xAN,xBq,xEU,xFZ,xAt,xBf,Int.zero_add,xCQ,xAy,xOx,f1]

structure RowsAt (v : Int) (nxt : Nat → Nat → Nat → Int) (n B rb l r : Nat) (G : xAv) (cs : List AV) : Prop where
  len : cs.length = n
  blk : G[rb]? = some (.cells false false cs)
  don : ∀ i,i < r → ∃ id,cs[i]? = some (.own false id 0 (two v) 1) ∧ G[id]? = some (.cells false false (ints (rvL nxt l i (two v)))) ∧ rb < id
  nil : ∀ i,r ≤ i → i < n → cs[i]? = some (.sl true 0 [])

set_option maxHeartbeats 1000000 in
theorem xUG (hR : Rd v n B f g nxt fin J) (hl : l < n) (hrb : B ≤ rb) : ∀ e r G cs,r + e = n → J G → RowsAt v nxt n B rb l r G cs →
    ∃ G' cs',L.loop xLy xTm ⟨xLz (.int .i64 v) (.int .i64 (n : Nat)) f g s8 s9 (.int .i64 (l : Nat)) (.own false rb 0 n 1) s16 s17 (.int .i64 (n : Nat)) (.int .i64 (r : Nat)),G⟩ =
      some (.exit 2,⟨xLz (.int .i64 v) (.int .i64 (n : Nat)) f g s8 s9 (.int .i64 (l : Nat)) (.own false rb 0 n 1) s16 s17 (.int .i64 (n : Nat)) (.int .i64 (n : Nat)),G'⟩) ∧
      RowsAt v nxt n B rb l n G' cs' ∧ (∀ b,b < G.length → b ≠ rb → G'[b]? = G[b]?) ∧ G.length ≤ G'.length := by
  have n64 := hR.n64
  have hsh := xJi hR.v0 hR.v3
  have hv : ¬ v < 0 := by have := hR.v0; omega
  intro e
  induction e with
  | zero =>
    intro r G cs h hJ hA
    obtain rfl : r = n := by omega
    refine ⟨G,cs,?_,hA,fun _ _ _ => rfl,Nat.le_refl _⟩
    rw [xVd]
    simp (maxSteps := 30000000) (disch := first | assumption | omega | (simp only [List.length_cons,List.length_nil,List.length_append,List.length_set,List.length_replicate,List.length_map,List.length_range,List.length_take,List.length_drop,List.all_cons,List.all_nil,AV.isCell,Bool.and_self,Bool.and_true,xAh,xAb,xAe,xAa,xAa,xAJ,List.length_map] <;> omega) | rfl | decide) only [xOy,xAq,xAf,xAc,xAk,xAB,opv,List.getD_cons_succ,List.getD_cons_zero,xAw,Int.lt_irrefl,decide_false,xAm,xAr,List.set_cons_succ,List.set_cons_zero,xAi,xAg,xAj,xAd,xAp,xAl,Bool.false_eq_true,↓reduceIte,xBm,xA6,xAX,xOz]
  | succ e ih =>
    intro r G cs h hJ hA
    have hlt : (r : Int) < (n : Nat) := by omega
    have hrl := (List.getElem?_eq_some_iff.1 hA.blk).1
    obtain ⟨G1,id,r1,r2,r3,r4,r5,r6,r7⟩ := xXV (s8 := s8) (s9 := s9) (s16 := s16) (s17 := s17) (s23 := .int .i64 (n : Nat)) (s24 := .int .i64 (r : Nat)) hR hl (show r < n by omega) hrb hJ hA.blk hA.len (hA.nil r (Nat.le_refl _) (by omega))
    have hil := (List.getElem?_eq_some_iff.1 r3).1
    obtain ⟨G',cs',f1,f2,f3,f4⟩ := ih (r + 1) G1 (cs.set r (.own false id 0 (two v) 1)) (by omega) (hR.keep G G1 hJ fun b hb => r6 b (by omega) (by omega))
      ⟨by simpa using hA.len,r2,fun i hi => by
        by_cases c : i = r
        · subst c
          exact ⟨id,List.getElem?_set_self (by rw [hA.len]; omega),r3,by omega⟩
        · obtain ⟨id2,d1,d2,d3⟩ := hA.don i (by omega)
          exact ⟨id2,by rw [List.getElem?_set_ne (Ne.symm c)]; exact d1,by rw [r6 id2 (List.getElem?_eq_some_iff.1 d2).1 (by omega)]; exact d2,d3⟩,
       fun i hi hn => by rw [List.getElem?_set_ne (by omega)]; exact hA.nil i (by omega) hn⟩
    refine ⟨G',cs',?_,f2,fun b h1 h2 => by rw [f3 b (by omega) h2,r6 b h1 h2],by omega⟩
    rw [xVd]
    simp (maxSteps := 30000000) (disch := first | assumption | omega | (simp only [List.length_cons,List.length_nil,List.length_append,List.length_set,List.length_replicate,List.length_map,List.length_range,List.length_take,List.length_drop,List.all_cons,List.all_nil,AV.isCell,Bool.and_self,Bool.and_true,xAh,xAb,xAe,xAa,xAa,xAJ,List.length_map] <;> omega) | rfl | decide) only [xOy,xAq,xAf,xAc,xAk,xAB,opv,List.getD_cons_succ,List.getD_cons_zero,xAw,hlt,decide_true,xAm,xAr,List.set_cons_succ,List.set_cons_zero,xAi,xAg,xAj,xAd,xAp,xAl,↓reduceIte,xAx,xAs,xAz,xCv,hsh,xA7,xOx,r1,xAR,xAt,xBf,xB6,xCQ,xAy,xOz,f1]
end
end Go.Abs.Det

/- built: a state's rows as a value; what is under way. -/
namespace Go.Abs.Det
open Go Go.Abs
set_option linter.unusedSimpArgs false
set_option linter.unusedVariables false

def xET (v : Int) (nxt : Nat → Nat → Nat → Int) (n l : Nat) : List (List Int) := (List.range n).map fun r => rvL nxt l r (two v)
def xD0 (v : Int) (nxt : Nat → Nat → Nat → Int) (n l : Nat) : List (List (List Int)) := (List.range l).map (xET v nxt n)
def xG7 (fin : Nat → Bool) (l : Nat) : List Bool := (List.range l).map fin
theorem xDw (fin : Nat → Bool) (l : Nat) : (xG7 fin l).length = l := by simp [xG7]
theorem xNe (fin : Nat → Bool) (l : Nat) : xG7 fin (l + 1) = xG7 fin l ++ [fin l] := by
  unfold xG7; rw [List.range_succ,List.map_append]; rfl
theorem xCg (v : Int) (nxt : Nat → Nat → Nat → Int) (n l : Nat) : (xD0 v nxt n l).length = l := by simp [xD0]
theorem xKm (v : Int) (nxt : Nat → Nat → Nat → Int) (n l : Nat) : xD0 v nxt n (l + 1) = xD0 v nxt n l ++ [xET v nxt n l] := by
  unfold xD0; rw [List.range_succ,List.map_append]; rfl
theorem xDV (v : Int) (nxt : Nat → Nat → Nat → Int) (n l : Nat) : (xET v nxt n l).length = n := by simp [xET]

theorem xXW {v : Int} {nxt : Nat → Nat → Nat → Int} {n B rb l : Nat} {G : xAv} {cs : List AV} (hn : 0 < n) (h : RowsAt v nxt n B rb l n G cs) : Fz 2 G rb (.own false rb 0 n 1) (rowsD (xET v nxt n l)) := by
  have hg : Grow 1 G rb (.own false rb 0 n 1) ((xET v nxt n l).map rowT) := .inr ⟨rb,cs,by rw [List.length_map,xDV],h.blk,Nat.le_refl _,by rw [List.length_map,xDV]; exact h.len,fun i c t hc ht => by
    have hi : i < n := by have := (List.getElem?_eq_some_iff.1 hc).1; rw [h.len] at this; exact this
    obtain ⟨id,d1,d2,d3⟩ := h.don i hi
    rw [d1] at hc
    obtain rfl := Option.some.inj hc
    have ht' : t = rowT (rvL nxt l i (two v)) := by
      unfold xET at ht
      simp [hi] at ht
      exact ht.symm
    subst ht'
    have hrow := Fz.row (G := G) (B := rb + 1) (id := id) (es := 1) (n := two v) (cs := ints (rvL nxt l i (two v))) d2 (xSB _) (by rw [xAa,xEI,Nat.mul_one]) d3
    have e1 : rowT (rvL nxt l i (two v)) = .sl false (two v) (ints (rvL nxt l i (two v))) := by unfold rowT; rw [xEI]
    rw [e1]
    exact ⟨hrow.low (by omega),fun d hd hm => by have := (hrow d hd).2 _ hm; omega⟩⟩
  have := hg.fz
  rw [List.length_map,xDV] at this
  have hz : (n == 0) = false := by rw [beq_eq_false_iff_ne]; omega
  rw [hz] at this
  have e2 : rowsD (xET v nxt n l) = .sl false n ((xET v nxt n l).map rowT) := by unfold rowsD; rw [xDV]
  rw [e2]
  rcases this with q | q
  · exact q
  · have := congrArg List.length q
    rw [List.length_map,xDV] at this
    simp at this; omega

theorem xXX {v : Int} {nxt : Nat → Nat → Nat → Int} {n B rb l : Nat} {G : xAv} {cs : List AV} (hn : n ≤ 64) (hv : two v ≤ 8) (h : RowsAt v nxt n B rb l n G cs) : TV1 G (.own false rb 0 n 1) := by
  refine .inr ⟨rb,cs,by rw [h.len],h.blk,by rw [h.len]; omega,fun c hc => ?_⟩
  obtain ⟨i,hi,rfl⟩ := List.getElem_of_mem hc
  obtain ⟨id,d1,d2,_⟩ := h.don i (by rw [← h.len]; exact hi)
  rw [List.getElem?_eq_getElem hi] at d1
  rw [Option.some.inj d1]
  exact .inr ⟨id,_,by rw [xEI],d2,by rw [xEI]; omega⟩

inductive UB (v : Int) (nxt : Nat → Nat → Nat → Int) (fin : Nat → Bool) (n q l : Nat) (G : xAv) : Prop
  | zero (h : l = 0) (h2 : G[q]? = some (.cells false false [.int .i64 v,.int .i64 0,.sl true 0 [],.sl true 0 []]))
  | more (id f : Nat) (cs : List AV) (h : l ≠ 0) (h2 : G[q]? = some (.cells false false [.int .i64 v,.int .i64 0,.own false id 0 l 1,.own false f 0 l 1]))
      (hi : G[id]? = some (.cells false false cs)) (hf : G[f]? = some (.cells false false (bools (xG7 fin l)))) (i3 : q < id) (f3 : q < f) (hne : id ≠ f) (hl : cs.length = l)
      (he : ∀ (i : Nat) (c t : AV),cs[i]? = some c → ((xD0 v nxt n l).map rowsD)[i]? = some t → Fz 2 G (q + 1) c t ∧ ∀ d,2 ≤ d → id ∉ bor d G c ∧ f ∉ bor d G c)
      (ht : ∀ c ∈ cs,TV1 G c)
end Go.Abs.Det

/- built: all states. -/
namespace Go.Abs.Det
open Go Go.Abs
set_option linter.unusedSimpArgs false
set_option linter.unusedVariables false

theorem xPh (a : AV) : ∀ n,xEE [a] n = List.replicate n a
  | 0 => rfl
  | n + 1 => by
    show [a] ++ xEE [a] n = _
    rw [xPh a n]; rfl

section
variable {v : Int} {n B q : Nat} {f g : AV} {nxt : Nat → Nat → Nat → Int} {fin : Nat → Bool} {J : xAv → Prop} {s8 : AV}

set_option maxRecDepth 10000 in
set_option maxHeartbeats 4000000 in
theorem xP6 (hR : Rd v n B f g nxt fin J) (hq : B ≤ q) : ∀ e l G,l + e = n → J G → UB v nxt fin n q l G →
    ∃ G',L.loop xLB xTn ⟨xLC (.int .i64 v) (.int .i64 (n : Nat)) f g s8 (.ptr q 0) (.int .i64 (n : Nat)) (.int .i64 (l : Nat)),G⟩ =
      some (.exit 0,⟨xLC (.int .i64 v) (.int .i64 (n : Nat)) f g s8 (.ptr q 0) (.int .i64 (n : Nat)) (.int .i64 (n : Nat)),G'⟩) ∧ UB v nxt fin n q n G' ∧ (∀ b,b < q → G'[b]? = G[b]?) ∧ G.length ≤ G'.length := by
  have n64 := hR.n64
  have n0 := hR.n0
  intro e
  induction e with
  | zero =>
    intro l G h hJ hU
    obtain rfl : l = n := by omega
    refine ⟨G,?_,hU,fun _ _ => rfl,Nat.le_refl _⟩
    rw [xQS]
    simp (maxSteps := 30000000) (disch := first | assumption | omega | (simp only [List.length_cons,List.length_nil,List.length_append,List.length_set,List.length_replicate,List.length_map,List.length_range,List.length_take,List.length_drop,List.all_cons,List.all_nil,AV.isCell,Bool.and_self,Bool.and_true,xAh,xAb,xAe,xAa,xAa,xAJ,List.length_map] <;> omega) | rfl | decide) only [xLA,xAq,xAf,xAc,xAk,xAB,opv,List.getD_cons_succ,List.getD_cons_zero,xAw,Int.lt_irrefl,decide_false,xAm,xAr,List.set_cons_succ,List.set_cons_zero,xAi,xAg,xAj,xAd,xAp,xAl,Bool.false_eq_true,↓reduceIte,xBm,xA6,xAX,xOA]
  | succ e ih =>
    intro l G h hJ hU
    have hlt : (l : Int) < (n : Nat) := by omega
    have hql : q < G.length := by
      cases hU with
      | zero _ h2 => exact (List.getElem?_eq_some_iff.1 h2).1
      | more id f cs _ h2 => exact (List.getElem?_eq_some_iff.1 h2).1
    have hJ1 : J (G ++ [.cells false false (List.replicate n (.sl true 0 []))]) := hR.keep G _ hJ fun b hb => List.getElem?_append_left (by omega)
    have hA : RowsAt v nxt n B G.length l 0 (G ++ [.cells false false (List.replicate n (.sl true 0 []))]) (List.replicate n (.sl true 0 [])) :=
      ⟨by simp,xCy _ _,fun i hi => by omega,fun i _ hi => by rw [List.getElem?_replicate,if_pos hi]⟩
    obtain ⟨G2,cs2,r1,r2,r3,r4⟩ := xUG (s8 := s8) (s9 := .ptr q 0) (s16 := .int .i64 (n : Nat)) (s17 := .int .i64 (l : Nat)) hR (show l < n by omega) (show B ≤ G.length by omega) n 0 _ _ (by omega) hJ1 hA
    have fz' := xXW n0 r2
    have tv' := xXX n64 (xFe hR.v3).1 r2
    have hrbl := (List.getElem?_eq_some_iff.1 r2.blk).1
    have old : ∀ b,b < G.length → G2[b]? = G[b]? := fun b hb => by
      rw [r3 b (by simp; omega) (by omega),List.getElem?_append_left hb]
    have hJ2 : J G2 := hR.keep G G2 hJ fun b hb => old b (by omega)
    simp only [Int.natCast_zero] at r1
    have hrep : xEE [AV.sl true 0 []] n = List.replicate n (AV.sl true 0 []) := xPh _ _
    have hG2 : G.length < G2.length := hrbl
    generalize hrb : G.length = rb at *
    have nbor : ∀ d,2 ≤ d → ∀ b ∈ bor d G2 (.own false rb 0 n 1),rb ≤ b ∧ b < G2.length := fun d hd b hb => (fz' d hd).2 b hb
    cases hU with
    | zero hl0 h2 =>
      subst hl0
      have hz2 : G2[q]? = some (.cells false false [.int .i64 v,.int .i64 0,.sl true 0 [],.sl true 0 []]) := (old q hql).trans h2
      obtain ⟨X,hX⟩ : ∃ X,X = Blk.cells false false [.int .i64 v,.int .i64 0,.own false (G2.length + 1) 0 1 1,.sl true 0 []] := ⟨_,rfl⟩
      obtain ⟨Hm,hHm⟩ : ∃ Hm : xAv,Hm = (G2 ++ [Blk.cells false false [.own false rb 0 n 1],Blk.cells false false [.own false rb 0 n 1]]).set q X := ⟨_,rfl⟩
      have hml : Hm.length = G2.length + 2 := by rw [hHm]; simp
      have sameM : ∀ b,b ≠ q → b < G2.length → Hm[b]? = G2[b]? := fun b hb hb2 => by
        rw [hHm,List.getElem?_set_ne (Ne.symm hb),List.getElem?_append_left hb2]
      have hmq : Hm[q]? = some X := by rw [hHm]; exact List.getElem?_set_self (by simp; omega)
      have hJm : J Hm := hR.keep G2 Hm hJ2 fun b hb => sameM b (by omega) (by omega)
      obtain ⟨T,hfn⟩ := hR.fn Hm 0 hJm (by omega)
      obtain ⟨Ht,hHt⟩ : ∃ Ht : xAv,Ht = Hm ++ T := ⟨_,rfl⟩
      have htl : Ht.length = Hm.length + T.length := by rw [hHt]; simp
      have sameT : ∀ b,b < Hm.length → Ht[b]? = Hm[b]? := fun b hb => by rw [hHt,List.getElem?_append_left hb]
      rw [← hHt] at hfn
      obtain ⟨Y,hY⟩ : ∃ Y,Y = Blk.cells false false [.int .i64 v,.int .i64 0,.own false (G2.length + 1) 0 1 1,.own false Ht.length 0 1 1] := ⟨_,rfl⟩
      obtain ⟨H',hH⟩ : ∃ H' : xAv,H' = (Ht ++ [Blk.cells false false [.bool (fin 0)]]).set q Y := ⟨_,rfl⟩
      have same : ∀ b,b ≠ q → b < G2.length → H'[b]? = G2[b]? := fun b hb hb2 => by
        rw [hH,List.getElem?_set_ne (Ne.symm hb),List.getElem?_append_left (by omega),sameT b (by omega),sameM b hb hb2]
      have hlen : H'.length = Ht.length + 1 := by rw [hH]; simp
      have htq : Ht[q]? = some X := (sameT q (by omega)).trans hmq
      have hs2 : H'[q]? = some Y := by rw [hH]; exact List.getElem?_set_self (by simp; omega)
      have hs3 : H'[G2.length + 1]? = some (.cells false false [.own false rb 0 n 1]) := by
        rw [hH,List.getElem?_set_ne (by omega),List.getElem?_append_left (by omega),sameT _ (by omega),hHm,List.getElem?_set_ne (by omega)]
        exact xNr _ _ 1
      have hs4 : H'[Ht.length]? = some (.cells false false [.bool (fin 0)]) := by
        rw [hH,List.getElem?_set_ne (by omega),List.getElem?_append_right (by omega)]
        simp
      have fzH : Fz 2 H' rb (.own false rb 0 n 1) (rowsD (xET v nxt n 0)) := fz'.frame (by omega) fun d hd b hb => by
        have := nbor d hd b hb
        exact same b (by omega) this.2
      have hU' : UB v nxt fin n q 1 H' := .more (G2.length + 1) Ht.length [.own false rb 0 n 1] (by omega) (by rw [hs2,hY]) hs3 (by rw [hs4]; rfl) (by omega) (by omega) (by omega) rfl (fun i c t hc ht => by
        have e0 : i = 0 := by
          cases i with
          | zero => rfl
          | succ i => simp at hc
        subst e0
        simp at hc
        subst hc
        have : t = rowsD (xET v nxt n 0) := by simpa [xD0] using ht.symm
        subst this
        refine ⟨fzH.low (by omega),fun d hd => ?_⟩
        have hb2 := (xDu d _ (fun b hb => by have := nbor d hd b hb; exact same b (by omega) this.2)).2
        rw [hb2]
        exact ⟨fun hm' => by have := nbor d hd _ hm'; omega,fun hm' => by have := nbor d hd _ hm'; omega⟩)
        (fun c hc => by
          rw [List.mem_singleton] at hc
          subst hc
          exact tv'.frame (d := 0) fun b hb => by have := nbor 2 (Nat.le_refl _) b hb; exact same b (by omega) this.2)
      obtain ⟨G',e1,e2,e3,e4⟩ := ih 1 H' (by omega) (hR.keep G2 H' hJ2 fun b hb => same b (by omega) (by omega)) hU'
      refine ⟨G',?_,e2,fun b hb => by rw [e3 b hb,same b (by omega) (by omega),old b (by omega)],by omega⟩
      have hz2' := fun T => xBQ (X := T) hz2
      have htq' := fun T => xBQ (X := T) htq
      have hsame : xER Hm Ht (.ptr q 3) 1 = true := by
        have h1 : rd Hm (.ptr q 3) 1 = some [.sl true 0 []] := by
          rw [xA1,hmq,hX,xAu (by simp)]; rfl
        have h2 : rd Ht (.ptr q 3) 1 = some [.sl true 0 []] := by
          rw [xA1,htq,hX,xAu (by simp)]; rfl
        simp [xER,h1,h2,xR9]
      have hHm' := hHm.symm
      rw [hX] at hHm' hmq htq htq'
      rw [hH,hY] at e1
      have hlt0 : (0 : Int) < (n : Nat) := by omega
      simp only [Int.natCast_zero,Int.natCast_one] at hlt0 e1 r1 hfn ⊢
      rw [xQS]
      simp (maxSteps := 30000000) (disch := first | assumption | omega | (simp only [List.length_cons,List.length_nil,List.length_append,List.length_set,List.length_replicate,List.length_map,List.length_range,List.length_take,List.length_drop,List.all_cons,List.all_nil,AV.isCell,Bool.and_self,Bool.and_true,xAh,xAb,xAe,xAa,xAa,xAJ,List.length_map] <;> omega) | rfl | decide) only [xLA,xAq,xAf,xAc,xAk,xAB,opv,List.getD_cons_succ,List.getD_cons_zero,xAw,hlt0,decide_true,xAm,xAr,List.set_cons_succ,List.set_cons_zero,xAi,xAg,xAj,xAd,xAp,xAl,↓reduceIte,xAx,xAs,xAz,xJW,xON,Int.toNat_natCast,List.length_cons,List.length_nil,Nat.zero_add,hrep,xC8,hrb,xA3,xBT,xA7,xOz,r1,xAR,xAQ,xAC,xAH,xA1,hz2,xAu,List.drop_succ_cons,List.drop_zero,List.take_succ_cons,List.take_zero,xAM,xBY,AV.cells,List.all_cons,beq_self_eq_true,List.all_nil,Bool.and_self,xDh,List.append_nil,Nat.mul_one,List.map_cons,List.map_nil,xCm,Nat.le_refl,AV.isCell,and_self,xBl,List.nil_append,List.drop_nil,xBX,xBZ,xKs,xCy,List.getElem?_cons_zero,xFO,List.take_nil,xEq,Nat.reduceBEq,List.length_append,List.append_assoc,List.cons_append,xBe,xBJ,hz2',xAZ,Nat.reduceAdd,hHm',xAN,xBq,xG8,xEr,xHH,Bool.false_eq_true,xA5,xCw,xBj,xBp,xEY,xEZ,xBE,hmq,xEX,xFQ,xE7,xFP,xB8,xG9,Nat.reduceSub,xF1,xCd,hfn,xF0,hsame,xCn,xBP,List.flatMap_cons,xKu,List.flatMap_nil,List.isEmpty_nil,List.mapM_cons,xCr,List.mapM_nil,Option.pure_def,Option.bind_eq_bind,Option.bind_some,xCi,xDs,htq',xEU,xFZ,xAt,xBf,Int.zero_add,xCQ,xAy,xOA,e1]
    | more id fb cs hl0 h2 hi hf i3 f3 hne hl he ht0 =>
      have hidl := (List.getElem?_eq_some_iff.1 hi).1
      have hfl := (List.getElem?_eq_some_iff.1 hf).1
      rw [hrb] at hidl hfl
      have hz2 : G2[q]? = some (.cells false false [.int .i64 v,.int .i64 0,.own false id 0 l 1,.own false fb 0 l 1]) := (old q hql).trans h2
      have hzi : G2[id]? = some (.cells false false cs) := (old id hidl).trans hi
      have hzf : G2[fb]? = some (.cells false false (bools (xG7 fin l))) := (old fb hfl).trans hf
      obtain ⟨X,hX⟩ : ∃ X,X = Blk.cells false false [.int .i64 v,.int .i64 0,.own false (G2.length + 1) 0 (l + 1) 1,.own false fb 0 l 1] := ⟨_,rfl⟩
      obtain ⟨Hm,hHm⟩ : ∃ Hm : xAv,Hm = (((G2 ++ [Blk.cells false false [.own false rb 0 n 1]]).set id .dead) ++ [Blk.cells false false (cs ++ [.own false rb 0 n 1])]).set q X := ⟨_,rfl⟩
      have hml : Hm.length = G2.length + 2 := by rw [hHm]; simp
      have sameM : ∀ b,b ≠ q → b ≠ id → b < G2.length → Hm[b]? = G2[b]? := fun b hb hbi hb2 => by
        rw [hHm,List.getElem?_set_ne (Ne.symm hb),List.getElem?_append_left (by simp; omega),List.getElem?_set_ne (Ne.symm hbi),List.getElem?_append_left hb2]
      have hmq : Hm[q]? = some X := by rw [hHm]; exact List.getElem?_set_self (by simp; omega)
      have hmf : Hm[fb]? = some (.cells false false (bools (xG7 fin l))) := (sameM fb (by omega) (by omega) (by omega)).trans hzf
      have hJm : J Hm := hR.keep G2 Hm hJ2 fun b hb => sameM b (by omega) (by omega) (by omega)
      obtain ⟨T,hfn⟩ := hR.fn Hm l hJm (by omega)
      obtain ⟨Ht,hHt⟩ : ∃ Ht : xAv,Ht = Hm ++ T := ⟨_,rfl⟩
      have htl : Ht.length = Hm.length + T.length := by rw [hHt]; simp
      have sameT : ∀ b,b < Hm.length → Ht[b]? = Hm[b]? := fun b hb => by rw [hHt,List.getElem?_append_left hb]
      rw [← hHt] at hfn
      obtain ⟨Y,hY⟩ : ∃ Y,Y = Blk.cells false false [.int .i64 v,.int .i64 0,.own false (G2.length + 1) 0 (l + 1) 1,.own false Ht.length 0 (l + 1) 1] := ⟨_,rfl⟩
      obtain ⟨H',hH⟩ : ∃ H' : xAv,H' = (Ht.set fb .dead ++ [Blk.cells false false (bools (xG7 fin l ++ [fin l]))]).set q Y := ⟨_,rfl⟩
      have same : ∀ b,b ≠ q → b ≠ id → b ≠ fb → b < G2.length → H'[b]? = G2[b]? := fun b hb hbi hbf hb2 => by
        rw [hH,List.getElem?_set_ne (Ne.symm hb),List.getElem?_append_left (by simp; omega),List.getElem?_set_ne (Ne.symm hbf),sameT b (by omega),sameM b hb hbi hb2]
      have hlen : H'.length = Ht.length + 1 := by rw [hH]; simp
      have htq : Ht[q]? = some X := (sameT q (by omega)).trans hmq
      have htf' : Ht[fb]? = some (.cells false false (bools (xG7 fin l))) := (sameT fb (by omega)).trans hmf
      have hs2 : H'[q]? = some Y := by rw [hH]; exact List.getElem?_set_self (by simp; omega)
      have hs3 : H'[G2.length + 1]? = some (.cells false false (cs ++ [.own false rb 0 n 1])) := by
        rw [hH,List.getElem?_set_ne (by omega),List.getElem?_append_left (by simp; omega),List.getElem?_set_ne (by omega),sameT _ (by omega),hHm,List.getElem?_set_ne (by omega),List.getElem?_append_right (by simp)]
        simp
      have hs4 : H'[Ht.length]? = some (.cells false false (bools (xG7 fin (l + 1)))) := by
        rw [hH,List.getElem?_set_ne (by omega),List.getElem?_append_right (by simp),xNe]
        simp
      have fzH : Fz 2 H' rb (.own false rb 0 n 1) (rowsD (xET v nxt n l)) := fz'.frame (by omega) fun d hd b hb => by
        have := nbor d hd b hb
        exact same b (by omega) (by omega) (by omega) this.2
      have hU' : UB v nxt fin n q (l + 1) H' := .more (G2.length + 1) Ht.length (cs ++ [.own false rb 0 n 1]) (by omega) (by rw [hs2,hY]) hs3 hs4 (by omega) (by omega) (by omega) (by simp [hl]) (fun i c t hc ht => by
        rw [xKm,List.map_append] at ht
        by_cases hil : i < cs.length
        · rw [List.getElem?_append_left hil] at hc
          rw [List.getElem?_append_left (by rw [List.length_map,xCg]; omega)] at ht
          obtain ⟨k1,k2⟩ := he i c t hc ht
          have hG2 : ∀ d,2 ≤ d → ∀ b ∈ bor d G c,H'[b]? = G[b]? := fun d hd b hb => by
            have hb' := (k1 d hd).2 b hb
            have hk := k2 d hd
            rw [hrb] at hb'
            rw [same b (by omega) (fun e => hk.1 (e ▸ hb)) (fun e => hk.2 (e ▸ hb)) (by omega)]
            exact old b hb'.2
          refine ⟨k1.frame (by omega) hG2,fun d hd => ?_⟩
          rw [(xDu d c (hG2 d hd)).2]
          exact ⟨fun hm' => by have := (k1 d hd).2 _ hm'; omega,fun hm' => by have := (k1 d hd).2 _ hm'; omega⟩
        · rw [List.getElem?_append_right (by omega)] at hc
          rw [List.getElem?_append_right (by rw [List.length_map,xCg]; omega),List.length_map,xCg,← hl] at ht
          have e0 : i - cs.length = 0 := by
            cases e : i - cs.length with
            | zero => rfl
            | succ j => rw [e] at hc; simp at hc
          rw [e0] at hc ht
          simp at hc ht
          subst hc; subst ht
          refine ⟨by rw [hl]; exact fzH.low (by omega),fun d hd => ?_⟩
          have hb2 := (xDu d _ (fun b hb => by have := nbor d hd b hb; exact same b (by omega) (by omega) (by omega) this.2)).2
          rw [hb2]
          exact ⟨fun hm' => by have := nbor d hd _ hm'; omega,fun hm' => by have := nbor d hd _ hm'; omega⟩)
        (fun c hc => by
          rcases List.mem_append.1 hc with hc | hc
          · obtain ⟨i,hil,rfl⟩ := List.getElem_of_mem hc
            have hts : i < ((xD0 v nxt n l).map rowsD).length := by rw [List.length_map,xCg]; omega
            obtain ⟨k1,k2⟩ := he i cs[i] _ (List.getElem?_eq_getElem hil) (List.getElem?_eq_getElem hts)
            refine (ht0 _ hc).frame (d := 0) fun b hb => ?_
            have hb' := (k1 2 (Nat.le_refl _)).2 b hb
            have hk := k2 2 (Nat.le_refl _)
            rw [hrb] at hb'
            rw [same b (by omega) (fun e => hk.1 (e ▸ hb)) (fun e => hk.2 (e ▸ hb)) (by omega)]
            exact old b hb'.2
          · rw [List.mem_singleton] at hc
            subst hc
            exact tv'.frame (d := 0) fun b hb => by have := nbor 2 (Nat.le_refl _) b hb; exact same b (by omega) (by omega) (by omega) this.2)
      obtain ⟨G',e1,e2,e3,e4⟩ := ih (l + 1) H' (by omega) (hR.keep G2 H' hJ2 fun b hb => same b (by omega) (by omega) (by omega) (by omega)) hU'
      refine ⟨G',?_,e2,fun b hb => by rw [e3 b hb,same b (by omega) (by omega) (by omega) (by omega),old b (by omega)],by omega⟩
      have hz2' := fun T => xBQ (X := T) hz2
      have hzi' := fun T => xBQ (X := T) hzi
      have q1 : ∀ T T' : xAv,((G2 ++ T).set id .dead ++ T')[q]? = some (.cells false false [.int .i64 v,.int .i64 0,.own false id 0 l 1,.own false fb 0 l 1]) := fun T T' => xBQ (by rw [List.getElem?_set_ne (by omega)]; exact xBQ hz2)
      have hsame : xER Hm Ht (.ptr q 3) 1 = true := by
        have h1 : rd Hm (.ptr q 3) 1 = some [.own false fb 0 l 1] := by
          rw [xA1,hmq,hX,xAu (by simp)]; rfl
        have h2 : rd Ht (.ptr q 3) 1 = some [.own false fb 0 l 1] := by
          rw [xA1,htq,hX,xAu (by simp)]; rfl
        simp [xER,h1,h2,xR9]
      have hmq2 : ∀ T : xAv,(Ht.set fb .dead ++ T)[q]? = some X := fun T => xBQ (by rw [List.getElem?_set_ne (by omega)]; exact htq)
      have hHm' := hHm.symm
      rw [hX] at hHm' hmq hmq2 htq
      have htk : List.take l cs = cs := List.take_of_length_le (by omega)
      have htf : List.take l (bools (xG7 fin l)) = bools (xG7 fin l) := List.take_of_length_le (by rw [xAJ,xDw]; exact Nat.le_refl _)
      have hbl : (bools (xG7 fin l)).length = l := by rw [xAJ,xDw]
      have hsn : ∀ b : Bool,bools (xG7 fin l) ++ [AV.bool b] = bools (xG7 fin l ++ [b]) := fun b => by rw [← xSC]; rfl
      rw [hH,hY] at e1
      rw [xQS]
      simp (maxSteps := 30000000) (disch := first | assumption | omega | (simp only [List.length_cons,List.length_nil,List.length_append,List.length_set,List.length_replicate,List.length_map,List.length_range,List.length_take,List.length_drop,List.all_cons,List.all_nil,AV.isCell,Bool.and_self,Bool.and_true,xAh,xAb,xAe,xAa,xAa,xAJ,List.length_map] <;> omega) | rfl | decide) only [xLA,xAq,xAf,xAc,xAk,xAB,opv,List.getD_cons_succ,List.getD_cons_zero,xAw,hlt,decide_true,xAm,xAr,List.set_cons_succ,List.set_cons_zero,xAi,xAg,xAj,xAd,xAp,xAl,↓reduceIte,xAx,xAs,xAz,xJW,xON,Int.toNat_natCast,List.length_cons,List.length_nil,Nat.zero_add,hrep,xC8,hrb,xA3,xBT,xA7,xOz,r1,xAR,xAQ,xAC,xAH,xA1,hz2,xAu,List.drop_succ_cons,List.drop_zero,List.take_succ_cons,List.take_zero,xAM,xBY,AV.cells,List.all_cons,beq_self_eq_true,List.all_nil,Bool.and_self,xDh,List.append_nil,Nat.mul_one,List.map_cons,List.map_nil,xCm,Nat.le_refl,AV.isCell,and_self,xBl,List.nil_append,List.drop_nil,xBX,xBZ,xKs,xCy,List.getElem?_cons_zero,xFO,List.take_nil,xFN,hzi',xEV,Nat.reduceBEq,List.length_append,htk,xBe,xBJ,q1,xAZ,List.cons_append,Nat.reduceAdd,hHm',xAN,xBq,xG8,xEr,xHH,Bool.false_eq_true,xA5,xCw,xBj,xBp,xEY,xEZ,xBE,hmq,xEX,xFQ,xE7,xFP,xB8,xG9,Nat.reduceSub,xF1,xCd,hfn,xF0,hsame,xCn,xBP,List.flatMap_cons,xKu,List.flatMap_nil,List.isEmpty_nil,List.mapM_cons,xCr,List.mapM_nil,Option.pure_def,Option.bind_eq_bind,Option.bind_some,xCi,xDs,htf',htf,hsn,hmq2,xEU,xFZ,xAt,xBf,xB6,xCQ,xAy,xOA,e1]
end
end Go.Abs.Det

/- built: the whole. -/
namespace Go.Abs.Det
open Go Go.Abs
set_option linter.unusedSimpArgs false
set_option linter.unusedVariables false

theorem yCN {v : Int} {nxt : Nat → Nat → Nat → Int} {fin : Nat → Bool} {n q l : Nat} {G : xAv} (h : UB v nxt fin n q l G) (hl : l ≠ 0) (hl64 : l ≤ 64) :
    ∃ i f : Nat,G[q]? = some (Blk.cells false false [.int .i64 v,.int .i64 0,.own false i 0 l 1,.own false f 0 l 1]) ∧ Fz 3 G (q + 1) (.own false i 0 l 1) (.sl false l ((xD0 v nxt n l).map rowsD)) ∧ Fz 1 G (q + 1) (.own false f 0 l 1) (.sl false l (bools (xG7 fin l))) ∧ TV2 G (.own false i 0 l 1) ∧ TB G (.own false f 0 l 1) := by
  cases h with
  | zero h0 => exact absurd h0 hl
  | more id f cs h h2 hi hf i3 f3 hne hcl he ht =>
    refine ⟨_,_,h2,?_,?_,.inr ⟨id,cs,by rw [hcl],hi,by omega,ht⟩,.inr ⟨f,_,by rw [xDw],hf,by rw [xDw]; omega⟩⟩
    · have hg : Grow 2 G (q + 1) (.own false id 0 l 1) ((xD0 v nxt n l).map rowsD) := .inr ⟨id,cs,by rw [List.length_map,xCg],hi,i3,by rw [List.length_map,xCg]; exact hcl,fun i c t hc ht => ⟨(he i c t hc ht).1,fun d hd => ((he i c t hc ht).2 d hd).1⟩⟩
      have := hg.fz
      rw [List.length_map,xCg] at this
      have hz : (l == 0) = false := by rw [beq_eq_false_iff_ne]; exact hl
      rw [hz] at this
      rcases this with p | p
      · exact p
      · have := congrArg List.length p; rw [List.length_map,xCg] at this; exact absurd this hl
    · have := Fz.row (B := q + 1) (es := 1) (n := l) hf (xP4 _) (by rw [xAJ,xDw,Nat.mul_one]) f3
      exact this

set_option maxHeartbeats 1000000 in
theorem xXY {v : Int} {n : Nat} {f g : AV} {nxt : Nat → Nat → Nat → Int} {fin : Nat → Bool} {J : xAv → Prop} {G : xAv} (hR : Rd v n G.length f g nxt fin J) (hJ : J G) :
    ∃ (G' : xAv) (i k : Nat),L.icall (.func 61 []) [.int .i64 v,.int .i64 (n : Nat),f,g] G = some (.agg [.int .i64 v,.int .i64 0,.own false i 0 n 1,.own false k 0 n 1],G') ∧
      Fz 3 G' G.length (.own false i 0 n 1) (.sl false n ((xD0 v nxt n n).map rowsD)) ∧ Fz 1 G' G.length (.own false k 0 n 1) (.sl false n (bools (xG7 fin n))) ∧ (∀ b,b < G.length → G'[b]? = G[b]?) ∧ G.length ≤ G'.length ∧ TV2 G' (.own false i 0 n 1) ∧ TB G' (.own false k 0 n 1) := by
  have n64 := hR.n64
  have n0 := hR.n0
  obtain ⟨G1,e1,e2,e3,e4⟩ := xP6 (s8 := .ptr G.length 0) hR (show G.length ≤ G.length + 1 by omega) n 0 (G ++ [.cells false false [.int .i64 0,.int .i64 0,.sl true 0 [],.sl true 0 []],.cells false false [.int .i64 v,.int .i64 0,.sl true 0 [],.sl true 0 []]]) (by omega)
    (hR.keep G _ hJ fun b hb => List.getElem?_append_left hb) (.zero rfl (xNr _ _ 1))
  obtain ⟨i,k,g2,f1,f2,t1,t2⟩ := yCN e2 (by omega) n64
  have z8 : G1[G.length]? = some (.cells false false [.int .i64 0,.int .i64 0,.sl true 0 [],.sl true 0 []]) := (e3 _ (by omega)).trans (xCy _ _)
  simp only [List.length_append,List.length_cons,List.length_nil] at e4
  obtain ⟨G',hG'⟩ : ∃ G' : xAv,G' = G1.set G.length (.cells false false [.int .i64 v,.int .i64 0,.own false i 0 n 1,.own false k 0 n 1]) := ⟨_,rfl⟩
  have hl' : G'.length = G1.length := by rw [hG']; simp
  have same : ∀ b,b ≠ G.length → G'[b]? = G1[b]? := fun b hb => by rw [hG',List.getElem?_set_ne (Ne.symm hb)]
  refine ⟨G',i,k,?_,(f1.frame (by omega) fun d hd b hb => same b (by have := (f1 d hd).2 b hb; omega)).low (by omega),(f2.frame (by omega) fun d hd b hb => same b (by have := (f2 d hd).2 b hb; omega)).low (by omega),
    fun b hb => by rw [same b (by omega),e3 b (by omega),List.getElem?_append_left hb],by omega,
    TV2.frame (d := 0) t1 (fun b hb => same b (by have := (f1 3 (Nat.le_refl _)).2 b hb; omega)),TB.frame (d := 0) t2 (fun b hb => same b (by have := (f2 1 (Nat.le_refl _)).2 b hb; omega))⟩
  have z8b : G'[G.length]? = some (.cells false false [.int .i64 v,.int .i64 0,.own false i 0 n 1,.own false k 0 n 1]) := by rw [hG']; exact List.getElem?_set_self (by omega)
  have hG'' := hG'.symm
  have hq1 : (G ++ [Blk.cells false false [AV.int .i64 0,AV.int .i64 0,AV.sl true 0 [],AV.sl true 0 []],Blk.cells false false [AV.int .i64 0,AV.int .i64 0,AV.sl true 0 [],AV.sl true 0 []]]).set (G.length + 1) (Blk.cells false false [AV.int .i64 v,AV.int .i64 0,AV.sl true 0 [],AV.sl true 0 []]) = G ++ [Blk.cells false false [AV.int .i64 0,AV.int .i64 0,AV.sl true 0 [],AV.sl true 0 []],Blk.cells false false [AV.int .i64 v,AV.int .i64 0,AV.sl true 0 [],AV.sl true 0 []]] := by
    rw [List.set_append_right _ _ (by omega)]; simp
  simp only [Int.natCast_zero] at e1
  rw [yEp,a61,xAT]
  simp (maxSteps := 30000000) (disch := first | assumption | omega | (simp only [List.length_cons,List.length_nil,List.length_append,List.length_set,List.length_replicate,List.length_map,List.length_range,List.length_take,List.length_drop,List.all_cons,List.all_nil,AV.isCell,Bool.and_self,Bool.and_true,xAh,xAb,xAe,xAa,xAa,xAJ,List.length_map] <;> omega) | rfl | decide) only [List.append_nil,List.length_cons,List.length_nil,Nat.zero_add,Nat.reduceAdd,Nat.reduceSub,xCF,List.cons_append,List.nil_append,xAq,xAf,xAc,xAk,xBv,AV.cells,opv,List.all_cons,AV.isCell,List.all_nil,Bool.and_self,↓reduceIte,xAr,List.set_cons_succ,List.set_cons_zero,xAi,xAg,xAj,xAd,xAz,List.getD_cons_zero,xCh,List.getD_cons_succ,beq_self_eq_true,List.map_cons,List.map_nil,xCm,Nat.reduceLeDiff,and_self,xBl,List.take_zero,List.drop_succ_cons,List.drop_zero,Option.map_some,xAm,List.length_append,List.append_assoc,xBe,xBJ,xNr,List.getElem?_cons_succ,List.getElem?_cons_zero,xAZ,List.drop_nil,hq1,xAN,xBq,xAs,xA7,xOA,e1,xAR,xAH,xA1,g2,xAu,List.take_succ_cons,List.take_nil,xBz,z8,hG'',xA0,xAP,xAV,xC9,z8b,xCz,xFm,xAD]
end Go.Abs.Det

/- renumber: the list of states is closed. Plain facts. -/
namespace Go.Abs.Det
open Go Go.Abs
set_option linter.unusedSimpArgs false
set_option linter.unusedVariables false

section
variable {D : Da}
theorem xSK {o o' : List Int} (h : o <+: o') {i : Nat} (hi : i < o.length) : o'.getD i 0 = o.getD i 0 := by
  obtain ⟨t,rfl⟩ := h
  simp only [List.getD_eq_getElem?_getD]
  rw [List.getElem?_append_left hi]
theorem xXZ {o o' : List Int} (h : o <+: o') {a : Int} (ha : a ∈ o) : a ∈ o' := h.subset ha

def Done (D : Da) (o : List Int) (i j : Nat) : Prop := ∀ x,x < two D.vars → nx D (o.getD i 0) (o.getD j 0) x ∈ o
theorem Done.pre {o o' : List Int} {i j : Nat} (h : Done D o i j) (hp : o <+: o') (hi : i < o.length) (hj : j < o.length) : Done D o' i j := fun x hx => by
  rw [xSK hp hi,xSK hp hj]; exact xXZ hp (h x hx)
end
end Go.Abs.Det

/- renumber,Renumber. -/
namespace Go.Abs.Det
open Go Go.Abs
set_option linter.unusedSimpArgs false
set_option linter.unusedVariables false

end Go.Abs.Det

/- renumber's automaton: valid; its steps; Renumber. -/
namespace Go.Abs.Det
open Go Go.Abs
set_option linter.unusedSimpArgs false
set_option linter.unusedVariables false

theorem xN1 {v e : Int} {nxt : Nat → Nat → Nat → Int} {fin : Nat → Bool} {n : Nat} (v0 : 0 ≤ v) (v3 : v ≤ 3) (n0 : 0 < n) (n64 : n ≤ 64) (e0 : 0 ≤ e) (en : e < n) (hb : ∀ i j x,i < n → j < n → x < two v → 0 ≤ nxt i j x ∧ nxt i j x < n) : Va ⟨v,e,xD0 v nxt n n,xG7 fin n⟩ := by
  refine ⟨v0,v3,by rw [xCg]; exact n0,by rw [xCg]; exact n64,by rw [xCg,xDw],e0,by rw [xCg]; exact en,fun rows hr => ?_,fun rows hr row hw => ?_,fun rows hr row hw s hs => ?_⟩
  · obtain ⟨l,_,rfl⟩ := List.mem_map.1 hr
    rw [xCg]; exact xDV ..
  · obtain ⟨l,_,rfl⟩ := List.mem_map.1 hr
    obtain ⟨r,_,rfl⟩ := List.mem_map.1 hw
    exact xEI ..
  · obtain ⟨l,hl,rfl⟩ := List.mem_map.1 hr
    obtain ⟨r,hr',rfl⟩ := List.mem_map.1 hw
    obtain ⟨x,hx,rfl⟩ := List.mem_map.1 hs
    rw [xCg]
    exact hb l r x (List.mem_range.1 hl) (List.mem_range.1 hr') (List.mem_range.1 hx)

end Go.Abs.Det

/- EqualTreeDFA: an automaton is equal to itself. -/
namespace Go.Abs.Det
open Go Go.Abs
set_option linter.unusedSimpArgs false
set_option linter.unusedVariables false

theorem xFH {l : List Bool} {z z' : Bool} {s4 : AV} {H : xAv} (hl : l.length < 1099511627776) : ∀ d i,i + d = l.length →
    L.loop xLG xTp ⟨xLH (.sl z l.length (bools l)) (.sl z' l.length (bools l)) s4 (.int .i64 (i : Nat)),H⟩ = some (.exit 0,⟨xLH (.sl z l.length (bools l)) (.sl z' l.length (bools l)) s4 (.int .i64 (l.length : Nat)),H⟩)
  | 0,i,h => by
    obtain rfl : i = l.length := by omega
    rw [xVf]
    simp (maxSteps := 30000000) (disch := first | assumption | omega | (simp only [List.length_cons,List.length_nil,List.length_append,List.length_set,List.length_replicate,List.length_map,List.length_range,List.length_take,List.length_drop,List.all_cons,List.all_nil,AV.isCell,Bool.and_self,Bool.and_true,xAh,xAb,xAe,xAa,xAa,xAJ,List.length_map] <;> omega) | rfl | decide) only [xLF,xAq,xAf,xAc,xAk,xAz,opv,List.getD_cons_succ,List.getD_cons_zero,xAr,List.set_cons_succ,List.set_cons_zero,xAi,xA3,xA4,xAm,xAB,xAw,Int.lt_irrefl,decide_false,xAg,xAj,xAd,xAp,xAl,Bool.false_eq_true,↓reduceIte,xBm,xA6,xAX,xOC]
  | d + 1,i,h => by
    have hlt : (i : Int) < (l.length : Nat) := by omega
    have hlt' : i < l.length := by omega
    have ih := xFH (z := z) (z' := z') (s4 := s4) (H := H) hl d (i + 1) (by omega)
    have g := xSA hlt'
    rw [xVf]
    generalize l.getD i false = b at *
    cases b
    · simp (maxSteps := 30000000) (disch := first | assumption | omega | (simp only [List.length_cons,List.length_nil,List.length_append,List.length_set,List.length_replicate,List.length_map,List.length_range,List.length_take,List.length_drop,List.all_cons,List.all_nil,AV.isCell,Bool.and_self,Bool.and_true,xAh,xAb,xAe,xAa,xAa,xAJ,List.length_map] <;> omega) | rfl | decide) only [xLF,xAq,xAf,xAc,xAk,xAz,opv,List.getD_cons_succ,List.getD_cons_zero,xAr,List.set_cons_succ,List.set_cons_zero,xAi,xA3,xA4,xAm,xAB,xAw,hlt,decide_true,xAg,xAj,xAd,xAp,xAl,↓reduceIte,xAx,xAs,xBt,List.take_succ_cons,List.take_zero,xAU,xA5,xB4,xBj,xBp,xBd,xBL,xAW,xAY,Int.toNat_natCast,Nat.mul_one,xBE,xAH,xBn,g,xAM,xA2,xBc,List.drop_succ_cons,List.drop_zero,xCf,xBo,xVm,xVl,Bool.not_true,Bool.false_eq_true,xAt,xBf,xB6,xCQ,xAy,xOC,ih]
    · simp (maxSteps := 30000000) (disch := first | assumption | omega | (simp only [List.length_cons,List.length_nil,List.length_append,List.length_set,List.length_replicate,List.length_map,List.length_range,List.length_take,List.length_drop,List.all_cons,List.all_nil,AV.isCell,Bool.and_self,Bool.and_true,xAh,xAb,xAe,xAa,xAa,xAJ,List.length_map] <;> omega) | rfl | decide) only [xLF,xAq,xAf,xAc,xAk,xAz,opv,List.getD_cons_succ,List.getD_cons_zero,xAr,List.set_cons_succ,List.set_cons_zero,xAi,xA3,xA4,xAm,xAB,xAw,hlt,decide_true,xAg,xAj,xAd,xAp,xAl,↓reduceIte,xAx,xAs,xBt,List.take_succ_cons,List.take_zero,xAU,xA5,xB4,xBj,xBp,xBd,xBL,xAW,xAY,Int.toNat_natCast,Nat.mul_one,xBE,xAH,xBn,g,xAM,xA2,xBc,List.drop_succ_cons,List.drop_zero,xCf,xBo,xVm,xVl,Bool.not_true,Bool.false_eq_true,xAt,xBf,xB6,xCQ,xAy,xOC,ih]
theorem xKn (z z' : Bool) (l : List Bool) (hl : l.length < 1099511627776) : L.pcall 67 [.sl z l.length (bools l),.sl z' l.length (bools l)] = some (.bool true) := by
  have ih := fun s4 => xFH (z := z) (z' := z') (s4 := s4) (H := []) hl l.length 0 (by omega)
  simp only [Int.natCast_zero] at ih
  rw [yEr,a67,xBA]
  simp (maxSteps := 30000000) (disch := first | assumption | omega | (simp only [List.length_cons,List.length_nil,List.length_append,List.length_set,List.length_replicate,List.length_map,List.length_range,List.length_take,List.length_drop,List.all_cons,List.all_nil,AV.isCell,Bool.and_self,Bool.and_true,xAh,xAb,xAe,xAa,xAa,xAJ,List.length_map] <;> omega) | rfl | decide) only [xAT,List.length_cons,List.length_nil,Nat.zero_add,Nat.reduceAdd,Nat.reduceSub,xCF,List.cons_append,List.nil_append,xAq,xAf,xAc,xAk,xAz,opv,xAr,List.set_cons_succ,List.set_cons_zero,xAi,xAg,xAj,xAd,List.getD_cons_zero,xA3,List.getD_cons_succ,xA4,xAm,xAB,xBy,decide_true,Bool.not_true,xAp,xAl,Bool.false_eq_true,↓reduceIte,xAx,xAs,xA7,xOC,ih,xAR,xA0,xAP,xAV,xBk,xAD,xAS,xBP,xCr]

theorem xGj {l : List (List Int)} {z z' : Bool} {s4 : AV} {H : xAv} (hl : l.length < 1099511627776) (hr : ∀ r ∈ l,r.length < 1099511627776) : ∀ d i,i + d = l.length →
    L.loop xIk xPv ⟨xGD (.sl z l.length (l.map rowT)) (.sl z' l.length (l.map rowT)) s4 (.int .i64 (i : Nat)),H⟩ = some (.exit 0,⟨xGD (.sl z l.length (l.map rowT)) (.sl z' l.length (l.map rowT)) s4 (.int .i64 (l.length : Nat)),H⟩)
  | 0,i,h => by
    obtain rfl : i = l.length := by omega
    rw [xLu]
    simp (maxSteps := 30000000) (disch := first | assumption | omega | (simp only [List.length_cons,List.length_nil,List.length_append,List.length_set,List.length_replicate,List.length_map,List.length_range,List.length_take,List.length_drop,List.all_cons,List.all_nil,AV.isCell,Bool.and_self,Bool.and_true,xAh,xAb,xAe,xAa,xAa,xAJ,List.length_map] <;> omega) | rfl | decide) only [xIj,xAq,xAf,xAc,xAk,xAz,opv,List.getD_cons_succ,List.getD_cons_zero,xAr,List.set_cons_succ,List.set_cons_zero,xAi,xA3,xA4,xAm,xAB,xAw,Int.lt_irrefl,decide_false,xAg,xAj,xAd,xAp,xAl,Bool.false_eq_true,↓reduceIte,xBm,xA6,xAX,xHz]
  | d + 1,i,h => by
    have hlt : (i : Int) < (l.length : Nat) := by omega
    have hlt' : i < l.length := by omega
    have ih := xGj (z := z) (z' := z') (s4 := s4) (H := H) hl hr d (i + 1) (by omega)
    have g := yAa hlt'
    have hm := xJj false false (l.getD i []) (hr _ (xCN hlt'))
    unfold iw at hm
    rw [xLu]
    generalize l.getD i [] = b at *
    simp (maxSteps := 30000000) (disch := first | assumption | omega | (simp only [List.length_cons,List.length_nil,List.length_append,List.length_set,List.length_replicate,List.length_map,List.length_range,List.length_take,List.length_drop,List.all_cons,List.all_nil,AV.isCell,Bool.and_self,Bool.and_true,xAh,xAb,xAe,xAa,xAa,xAJ,List.length_map] <;> omega) | rfl | decide) only [xIj,xAq,xAf,xAc,xAk,xAz,opv,List.getD_cons_succ,List.getD_cons_zero,xAr,List.set_cons_succ,List.set_cons_zero,xAi,xA3,xA4,xAm,xAB,xAw,hlt,decide_true,xAg,xAj,xAd,xAp,xAl,↓reduceIte,xAx,xAs,xBt,List.take_succ_cons,List.take_zero,xAU,xA5,xB4,xBj,xBp,xBd,xBL,xAW,xAY,Int.toNat_natCast,Nat.mul_one,xBE,xAH,xBn,g,rowT,xAM,xA2,xBc,List.drop_succ_cons,List.drop_zero,xCf,xBo,xBH,List.map_cons,List.map_nil,xBi,xBP,List.mapM_cons,xB0,List.mapM_nil,Option.pure_def,Option.bind_eq_bind,Option.bind_some,xBh,hm,xBg,xDx,xCq,xGn,xEh,Bool.not_true,Bool.false_eq_true,xAt,xBf,xB6,xCQ,xAy,xHz,ih]
theorem xSL (z z' : Bool) (l : List (List Int)) (hl : l.length < 1099511627776) (hr : ∀ r ∈ l,r.length < 1099511627776) : L.pcall 39 [.sl z l.length (l.map rowT),.sl z' l.length (l.map rowT)] = some (.bool true) := by
  have ih := fun s4 => xGj (z := z) (z' := z') (s4 := s4) (H := []) hl hr l.length 0 (by omega)
  simp only [Int.natCast_zero] at ih
  rw [yBG,a39,xBA]
  simp (maxSteps := 30000000) (disch := first | assumption | omega | (simp only [List.length_cons,List.length_nil,List.length_append,List.length_set,List.length_replicate,List.length_map,List.length_range,List.length_take,List.length_drop,List.all_cons,List.all_nil,AV.isCell,Bool.and_self,Bool.and_true,xAh,xAb,xAe,xAa,xAa,xAJ,List.length_map] <;> omega) | rfl | decide) only [xAT,List.length_cons,List.length_nil,Nat.zero_add,Nat.reduceAdd,Nat.reduceSub,xCF,List.cons_append,List.nil_append,xAq,xAf,xAc,xAk,xAz,opv,xAr,List.set_cons_succ,List.set_cons_zero,xAi,xAg,xAj,xAd,List.getD_cons_zero,xA3,List.getD_cons_succ,xA4,xAm,xAB,xBy,decide_true,Bool.not_true,xAp,xAl,Bool.false_eq_true,↓reduceIte,xAx,xAs,xA7,xHz,ih,xAR,xA0,xAP,xAV,xBk,xAD,xAS,xBP,xCr]

theorem xFf {l : List (List (List Int))} {z z' : Bool} {s4 : AV} {H : xAv} (hl : l.length < 1099511627776) (hr : ∀ r ∈ l,r.length < 1099511627776 ∧ ∀ w ∈ r,w.length < 1099511627776) : ∀ d i,i + d = l.length →
    L.loop xLD xTo ⟨xLE (.sl z l.length (l.map rowsD)) (.sl z' l.length (l.map rowsD)) s4 (.int .i64 (i : Nat)),H⟩ = some (.exit 0,⟨xLE (.sl z l.length (l.map rowsD)) (.sl z' l.length (l.map rowsD)) s4 (.int .i64 (l.length : Nat)),H⟩)
  | 0,i,h => by
    obtain rfl : i = l.length := by omega
    rw [xVe]
    simp (maxSteps := 30000000) (disch := first | assumption | omega | (simp only [List.length_cons,List.length_nil,List.length_append,List.length_set,List.length_replicate,List.length_map,List.length_range,List.length_take,List.length_drop,List.all_cons,List.all_nil,AV.isCell,Bool.and_self,Bool.and_true,xAh,xAb,xAe,xAa,xAa,xAJ,List.length_map] <;> omega) | rfl | decide) only [xOB,xAq,xAf,xAc,xAk,xAz,opv,List.getD_cons_succ,List.getD_cons_zero,xAr,List.set_cons_succ,List.set_cons_zero,xAi,xA3,xA4,xAm,xAB,xAw,Int.lt_irrefl,decide_false,xAg,xAj,xAd,xAp,xAl,Bool.false_eq_true,↓reduceIte,xBm,xA6,xAX,xQT]
  | d + 1,i,h => by
    have hlt : (i : Int) < (l.length : Nat) := by omega
    have hlt' : i < l.length := by omega
    have ih := xFf (z := z) (z' := z') (s4 := s4) (H := H) hl hr d (i + 1) (by omega)
    have g := xXM hlt'
    have hi := hr _ (xCN (a := ([] : List (List Int))) hlt')
    have hm := xSL false false (l.getD i []) hi.1 hi.2
    rw [xVe]
    generalize l.getD i [] = b at *
    simp (maxSteps := 30000000) (disch := first | assumption | omega | (simp only [List.length_cons,List.length_nil,List.length_append,List.length_set,List.length_replicate,List.length_map,List.length_range,List.length_take,List.length_drop,List.all_cons,List.all_nil,AV.isCell,Bool.and_self,Bool.and_true,xAh,xAb,xAe,xAa,xAa,xAJ,List.length_map] <;> omega) | rfl | decide) only [xOB,xAq,xAf,xAc,xAk,xAz,opv,List.getD_cons_succ,List.getD_cons_zero,xAr,List.set_cons_succ,List.set_cons_zero,xAi,xA3,xA4,xAm,xAB,xAw,hlt,decide_true,xAg,xAj,xAd,xAp,xAl,↓reduceIte,xAx,xAs,xBt,List.take_succ_cons,List.take_zero,xAU,xA5,xB4,xBj,xBp,xBd,xBL,xAW,xAY,Int.toNat_natCast,Nat.mul_one,xBE,xAH,xBn,g,rowsD,xAM,xA2,xBc,List.drop_succ_cons,List.drop_zero,xCf,xBo,xBH,List.map_cons,List.map_nil,xBi,xBP,List.mapM_cons,xB0,List.mapM_nil,Option.pure_def,Option.bind_eq_bind,Option.bind_some,xBh,hm,xBg,xDx,xCq,xGn,xEh,Bool.not_true,Bool.false_eq_true,xAt,xBf,xB6,xCQ,xAy,xQT,ih]
theorem xJm (z z' : Bool) (l : List (List (List Int))) (hl : l.length < 1099511627776) (hr : ∀ r ∈ l,r.length < 1099511627776 ∧ ∀ w ∈ r,w.length < 1099511627776) : L.pcall 66 [.sl z l.length (l.map rowsD),.sl z' l.length (l.map rowsD)] = some (.bool true) := by
  have ih := fun s4 => xFf (z := z) (z' := z') (s4 := s4) (H := []) hl hr l.length 0 (by omega)
  simp only [Int.natCast_zero] at ih
  rw [yEq,a66,xBA]
  simp (maxSteps := 30000000) (disch := first | assumption | omega | (simp only [List.length_cons,List.length_nil,List.length_append,List.length_set,List.length_replicate,List.length_map,List.length_range,List.length_take,List.length_drop,List.all_cons,List.all_nil,AV.isCell,Bool.and_self,Bool.and_true,xAh,xAb,xAe,xAa,xAa,xAJ,List.length_map] <;> omega) | rfl | decide) only [xAT,List.length_cons,List.length_nil,Nat.zero_add,Nat.reduceAdd,Nat.reduceSub,xCF,List.cons_append,List.nil_append,xAq,xAf,xAc,xAk,xAz,opv,xAr,List.set_cons_succ,List.set_cons_zero,xAi,xAg,xAj,xAd,List.getD_cons_zero,xA3,List.getD_cons_succ,xA4,xAm,xAB,xBy,decide_true,Bool.not_true,xAp,xAl,Bool.false_eq_true,↓reduceIte,xAx,xAs,xA7,xQT,ih,xAR,xA0,xAP,xAV,xBk,xAD,xAS,xBP,xCr]

theorem xUH {D : Da} (hV : Va D) : L.pcall 29 [D.av,D.av] = some (.bool true) := by
  have n64 := hV.n64
  have h8 := xFe hV.v3
  have h1 := xJm false false D.next (by omega) (fun r hr => ⟨by rw [hV.rl r hr]; omega,fun w hw => by rw [hV.cl r hr w hw]; omega⟩)
  have h2 := xKn false false D.fin (by rw [hV.fl]; omega)
  unfold Da.av Da.cells
  rw [yDo,a29,xBA]
  simp (maxSteps := 30000000) (disch := first | assumption | omega | (simp only [List.length_cons,List.length_nil,List.length_append,List.length_set,List.length_replicate,List.length_map,List.length_range,List.length_take,List.length_drop,List.all_cons,List.all_nil,AV.isCell,Bool.and_self,Bool.and_true,xAh,xAb,xAe,xAa,xAa,xAJ,List.length_map] <;> omega) | rfl | decide) only [xAT,List.length_cons,List.length_nil,Nat.zero_add,Nat.reduceAdd,Nat.reduceSub,xCF,List.cons_append,List.nil_append,xAq,xAf,xAc,xAk,xBv,AV.cells,opv,List.getD_cons_zero,List.all_cons,AV.isCell,List.all_nil,Bool.and_self,↓reduceIte,xAr,List.set_cons_succ,List.set_cons_zero,xAi,List.getD_cons_succ,xAz,xAg,xAj,xAd,xAQ,xAC,Nat.add_zero,xAm,xAH,xA1,List.getElem?_cons_zero,xAu,List.drop_zero,List.take_succ_cons,List.take_zero,xAM,List.getElem?_cons_succ,xAB,xC3,decide_true,xAK,xAA,List.drop_succ_cons,xA9,xAL,xBH,List.map_cons,List.map_nil,xBi,xBP,List.mapM_cons,xB0,List.mapM_nil,Option.pure_def,Option.bind_eq_bind,Option.bind_some,xBh,h1,xBg,xDx,xCq,List.take_nil,h2,xA0,xAP,xAV,xBk,xAD,xAS,xCr]
end Go.Abs.Det
