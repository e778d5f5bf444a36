/- Words of states: word,list. -/
import Derived.Test.YtdkbhidfiplncaaAMB
import Derived.Test.YtdkbhidfiplncaaAGL
import Derived.Test.YtdkbhidfiplncaaAMR
import Derived.Test.YtdkbhidfiplncaaATV
namespace Go.Abs.Det
open Go Go.Abs
set_option linter.unusedSimpArgs false
set_option linter.unusedVariables false

theorem xJt {z : Bool} {l : List Int} {H : xAv} (hl : l.length < 1099511627776) (hq : ∀ q ∈ l,0 ≤ q ∧ q < 64) : ∀ d i a,i + d = l.length → a < 18446744073709551616 →
    L.loop xLM xTr ⟨xLN (.int .u64 (a : Nat)) (iw z l) (.int .i64 (l.length : Nat)) (.int .i64 (i : Nat)),H⟩ = some (.exit 0,⟨xLN (.int .u64 (xDA a (l.drop i) : Nat)) (iw z l) (.int .i64 (l.length : Nat)) (.int .i64 (l.length : Nat)),H⟩)
  | 0,i,a,h,ha => by
    obtain rfl : i = l.length := by omega
    rw [List.drop_length,xDA,xVh]
    simp (maxSteps := 30000000) (disch := first | assumption | omega | (simp only [List.length_cons,List.length_nil,List.length_append,List.length_set,List.length_replicate,List.length_map,List.length_range,List.length_take,List.length_drop,List.all_cons,List.all_nil,AV.isCell,Bool.and_self,Bool.and_true,xAh,xAb,xAe,xAa,xAa,List.length_map] <;> omega) | rfl | decide) only [xOE,xAq,xAf,xAc,xAk,xAB,opv,List.getD_cons_succ,List.getD_cons_zero,xAw,Int.lt_irrefl,decide_false,xAm,xAr,List.set_cons_succ,List.set_cons_zero,xAi,xAg,xAj,xAd,xAp,xAl,Bool.false_eq_true,↓reduceIte,xBm,xA6,xAX,xQZ]
  | d + 1,i,a,h,ha => by
    have hlt : (i : Int) < (l.length : Nat) := by omega
    have hm := hq (l.getD i 0) (by rw [List.getD_eq_getElem?_getD,List.getElem?_eq_getElem (by omega : i < l.length)]; exact List.getElem_mem _)
    have hs := xXQ (show (l.getD i 0).toNat < 64 by omega)
    have hp := xSH (show (l.getD i 0).toNat < 64 by omega)
    have ho := yCI ha hp
    have h0 := hm.1
    have ih := xJt (z := z) (H := H) hl hq d (i + 1) (a ||| 2 ^ (l.getD i 0).toNat) (by omega) (xSF ha hp)
    rw [xDU (by omega : i < l.length),xDA,xVh]
    simp (maxSteps := 30000000) (disch := first | assumption | omega | (simp only [List.length_cons,List.length_nil,List.length_append,List.length_set,List.length_replicate,List.length_map,List.length_range,List.length_take,List.length_drop,List.all_cons,List.all_nil,AV.isCell,Bool.and_self,Bool.and_true,xAh,xAb,xAe,xAa,xAa,List.length_map] <;> omega) | rfl | decide) only [xOE,xAq,xAf,xAc,xAk,xAB,opv,List.getD_cons_succ,List.getD_cons_zero,xAw,hlt,decide_true,xAm,xAr,List.set_cons_succ,List.set_cons_zero,xAi,xAg,xAj,xAd,xAp,xAl,↓reduceIte,xAx,xAs,xAW,xAY,Int.toNat_natCast,Nat.mul_one,xAH,xBn,xB1,xBR,xCu,xBW,Nat.add_zero,xAM,xAz,xCv,hs,xMh,ho,xAt,xBf,xB6,xCQ,xAy,xQZ,ih]

theorem xVS (z : Bool) (l : List Int) (hl : l.length < 1099511627776) (hq : ∀ q ∈ l,0 ≤ q ∧ q < 64) : L.pcall 73 [iw z l] = some (.int .u64 (xDA 0 l : Nat)) := by
  have h := xJt (z := z) (H := []) hl hq l.length 0 0 (by omega) (by omega)
  simp only [Int.natCast_zero,List.drop_zero] at h
  rw [yEu,a73,xBA]
  simp (maxSteps := 30000000) (disch := first | assumption | omega | (simp only [List.length_cons,List.length_nil,List.length_append,List.length_set,List.length_replicate,List.length_map,List.length_range,List.length_take,List.length_drop,List.all_cons,List.all_nil,AV.isCell,Bool.and_self,Bool.and_true,xAh,xAb,xAe,xAa,xAa,List.length_map] <;> omega) | rfl | decide) only [xAT,List.length_cons,List.length_nil,Nat.zero_add,Nat.reduceSub,xCF,List.cons_append,List.nil_append,xAq,xAf,xAc,xAk,xAz,opv,xAr,List.set_cons_succ,List.set_cons_zero,xAi,xAg,xAj,xAd,List.getD_cons_zero,xA3,List.getD_cons_succ,xA4,xAm,xAs,xA7,xQZ,h,xAR,↓reduceIte,xA0,xAP,xAV,xBk,xAD,xAS,xBP,xBa]

def lsW (w i : Nat) : List Int := ((List.range i).filter (fun s => w.testBit s)).map fun (s : Nat) => (s : Int)
theorem xK3 (w i : Nat) : lsW w (i + 1) = if w.testBit i = true then lsW w i ++ [(i : Int)] else lsW w i := by
  unfold lsW
  rw [List.range_succ,List.filter_append,List.map_append]
  by_cases c : w.testBit i = true
  · rw [if_pos c]; simp [c]
  · rw [if_neg c]; simp [c]
theorem xEJ (w i : Nat) : (lsW w i).length ≤ i := by
  unfold lsW
  rw [List.length_map]
  have := List.length_filter_le (fun s => w.testBit s) (List.range i)
  rwa [List.length_range] at this
theorem xHd (l : List Int) : (ints l).all xCA = true := by
  induction l with
  | nil => rfl
  | cons a l ih => simp [ints,xCA]

theorem xS1 {w : Nat} (hw : w < 18446744073709551616) : ∀ d i v H,i + d = 64 → Lst 0 H v (ints (lsW w i)) →
    ∃ v' H',L.loop xL0 xTv ⟨xL1 (.int .u64 (w : Nat)) v (.int .i64 (i : Nat)),H⟩ = some (.exit 0,⟨xL1 (.int .u64 (w : Nat)) v' (.int .i64 64),H'⟩) ∧ Lst 0 H' v' (ints (lsW w 64)) := by
  intro d
  induction d with
  | zero =>
    intro i v H h hv
    obtain rfl : i = 64 := by omega
    refine ⟨v,H,?_,hv⟩
    rw [xQ3]
    simp (maxSteps := 30000000) (disch := first | assumption | omega | (simp only [List.length_cons,List.length_nil,List.length_append,List.length_set,List.length_replicate,List.length_map,List.length_range,List.length_take,List.length_drop,List.all_cons,List.all_nil,AV.isCell,Bool.and_self,Bool.and_true,xAh,xAb,xAe,xAa,xAa,List.length_map] <;> omega) | rfl | decide) only [xLZ,xC0,xAq,xAf,xAc,xAk,xAB,opv,List.getD_cons_succ,List.getD_cons_zero,xAw,Int.lt_irrefl,decide_false,xAm,xAr,List.set_cons_succ,List.set_cons_zero,xAi,xAg,xAj,xAd,xAp,xAl,Bool.false_eq_true,↓reduceIte,xBm,xA6,xAX,xOG]
  | succ d ih =>
    intro i v H h hv
    have hlt : (i : Int) < 64 := by omega
    have hsl := xYO w (show i ≤ IntKind.u64.bits from by show _ ≤ 64; omega)
    have hb := yCK hw i
    have hs := xK3 w i
    have hln := xEJ w i
    by_cases c : w.testBit i = true
    · rw [if_pos c] at hb hs
      obtain ⟨v1,H1,p1,p2,_⟩ := hv.push (.int .i64 (i : Nat)) (bytes := 8) (by rw [xAa]; omega) (by rw [xAa]; omega) (Nat.zero_le _)
      have e2 : ints (lsW w i) ++ [AV.int .i64 (i : Nat)] = ints (lsW w (i + 1)) := by rw [hs]; simp [ints]
      rw [e2] at p2
      obtain ⟨v',H',q1,q2⟩ := ih (i + 1) v1 H1 (by omega) p2
      refine ⟨v',H',?_,q2⟩
      rw [xQ3]
      simp (maxSteps := 30000000) (disch := first | assumption | omega | (simp only [List.length_cons,List.length_nil,List.length_append,List.length_set,List.length_replicate,List.length_map,List.length_range,List.length_take,List.length_drop,List.all_cons,List.all_nil,AV.isCell,Bool.and_self,Bool.and_true,xAh,xAb,xAe,xAa,xAa,List.length_map] <;> omega) | rfl | decide) only [xLZ,xAq,xAf,xAc,xAk,xAB,opv,List.getD_cons_succ,List.getD_cons_zero,xAw,hlt,decide_true,xAm,xAr,List.set_cons_succ,List.set_cons_zero,xAi,xAg,xAj,xAd,xAp,xAl,↓reduceIte,xAx,xAs,xAz,xDW,Int.toNat_natCast,hsl,xC2,hb,xBy,Int.reduceEq,decide_false,Bool.not_false,xBY,AV.cells,List.all_cons,List.length_cons,List.length_nil,Nat.zero_add,beq_self_eq_true,List.all_nil,Bool.and_self,xDh,List.append_nil,Nat.mul_one,List.map_cons,List.map_nil,xCm,Nat.le_refl,AV.isCell,and_self,xBl,List.take_zero,List.nil_append,List.drop_succ_cons,List.drop_nil,xBX,xCn,xBP,List.flatMap_cons,xCp,List.flatMap_nil,List.isEmpty_nil,List.mapM_cons,xBa,List.mapM_nil,Option.pure_def,Option.bind_eq_bind,Option.bind_some,xCi,xBZ,xDs,p1,xAt,xBf,xB6,xCQ,xAy,xOG,q1]
    · rw [if_neg c] at hb hs
      obtain ⟨v',H',q1,q2⟩ := ih (i + 1) v H (by omega) (by rw [hs]; exact hv)
      refine ⟨v',H',?_,q2⟩
      rw [xQ3]
      simp (maxSteps := 30000000) (disch := first | assumption | omega | (simp only [List.length_cons,List.length_nil,List.length_append,List.length_set,List.length_replicate,List.length_map,List.length_range,List.length_take,List.length_drop,List.all_cons,List.all_nil,AV.isCell,Bool.and_self,Bool.and_true,xAh,xAb,xAe,xAa,xAa,List.length_map] <;> omega) | rfl | decide) only [xLZ,xAq,xAf,xAc,xAk,xAB,opv,List.getD_cons_succ,List.getD_cons_zero,xAw,hlt,decide_true,xAm,xAr,List.set_cons_succ,List.set_cons_zero,xAi,xAg,xAj,xAd,xAp,xAl,↓reduceIte,xAx,xAs,xAz,xDW,Int.toNat_natCast,hsl,xC2,hb,xBy,Bool.not_true,Bool.false_eq_true,xAt,xBf,xB6,xCQ,xAy,xOG,q1]

theorem xJu (w : Nat) (j : Nat) : (lsW w 64).contains (j : Int) = (decide (j < 64) && w.testBit j) := by
  rw [Bool.eq_iff_iff,List.contains_iff_mem]
  unfold lsW
  simp only [List.mem_map,List.mem_filter,List.mem_range,Bool.and_eq_true,decide_eq_true_eq]
  constructor
  · rintro ⟨s,⟨h1,h2⟩,h3⟩
    have : s = j := by omega
    subst this
    exact ⟨h1,h2⟩
  · rintro ⟨h1,h2⟩
    exact ⟨j,⟨h1,h2⟩,rfl⟩
def xCJ (w : Nat) : AV := .sl ((lsW w 64).length == 0) (lsW w 64).length (ints (lsW w 64))
theorem xH8 (l : List Nat) : (l.map xCJ).all xCA = true := by simp [xCJ,xCA]
end Go.Abs.Det

/- The states of a node,from two numbered sets: after. -/
namespace Go.Abs.Det
open Go Go.Abs
set_option linter.unusedSimpArgs false
set_option linter.unusedVariables false

theorem xNj {a : Nat} (h : a < 18446744073709551616) (k : Nat) : a >>> k < 18446744073709551616 := Nat.lt_of_le_of_lt (by rw [Nat.shiftRight_eq_div_pow]; exact Nat.div_le_self ..) h
theorem yEi {a b : Nat} (ha : a < 18446744073709551616) (hb : b < 18446744073709551616) (k m : Nat) : xFh .and .u64 (((a >>> k) &&& (b >>> m) : Nat) : Int) 1 = if a.testBit k = true ∧ b.testBit m = true then 1 else 0 := by
  have hc : (a >>> k) &&& (b >>> m) < 18446744073709551616 := Nat.lt_of_le_of_lt Nat.and_le_left (xNj ha k)
  have h := yCK hc 0
  rw [Nat.shiftRight_zero] at h
  rw [h,Nat.testBit_and,Nat.testBit_shiftRight,Nat.testBit_shiftRight,Nat.add_zero,Nat.add_zero]
  simp only [Bool.and_eq_true]

set_option maxHeartbeats 1000000 in
theorem xN8 {z : Bool} {rl : List Rl} {o : List Nat} {l r x : Nat} {q lb : Nat} (hl : rl.length < 1099511627776) (hb : xQl rl) (ho : ∀ w ∈ o,w < 18446744073709551616) (hol : o.length ≤ 65) (hlo : l < o.length) (hro : r < o.length) (hx : x < 256) : ∀ d i a G,i + d = rl.length → a < 18446744073709551616 → G[q]? = some (.cells false false [.own false lb 0 o.length 1]) → G[lb]? = some (.cells false false (w64 o)) →
    ∃ X,L.loop xJQ xQ0 ⟨xIp (.int .i64 (l : Nat)) (.int .i64 (r : Nat)) (.int .i64 (x : Nat)) (.ptr q 0) (.int .u64 (a : Nat)) (.sl z rl.length (rls rl)) (.int .i64 (rl.length : Nat)) (.int .i64 (i : Nat)),G⟩ =
      some (.exit 0,⟨xIp (.int .i64 (l : Nat)) (.int .i64 (r : Nat)) (.int .i64 (x : Nat)) (.ptr q 0) (.int .u64 (toM (o.getD l 0) (o.getD r 0) x a (rl.drop i) : Nat)) (.sl z rl.length (rls rl)) (.int .i64 (rl.length : Nat)) (.int .i64 (rl.length : Nat)),G ++ X⟩) := by
  have hA := ho _ (xCN (a := (0 : Nat)) hlo)
  have hB := ho _ (xCN (a := (0 : Nat)) hro)
  have gl : List.take 1 (List.drop l (w64 o)) = [.int .u64 (o.getD l 0 : Nat)] := xDv _ _ hlo
  have gr : List.take 1 (List.drop r (w64 o)) = [.int .u64 (o.getD r 0 : Nat)] := xDv _ _ hro
  generalize o.getD l 0 = A at *
  generalize o.getD r 0 = B at *
  intro d
  induction d with
  | zero =>
    intro i a G h ha hq hlb
    obtain rfl : i = rl.length := by omega
    refine ⟨[],?_⟩
    rw [List.drop_length,toM,xF7,List.append_nil]
    simp (maxSteps := 30000000) (disch := first | assumption | omega | (simp only [List.length_cons,List.length_nil,List.length_append,List.length_set,List.length_replicate,List.length_map,List.length_range,List.length_take,List.length_drop,List.all_cons,List.all_nil,AV.isCell,Bool.and_self,Bool.and_true,xAh,xAb,xAe,xAa,xAo] <;> omega) | rfl | decide) only [xE8,xAq,xAf,xAc,xAk,xAB,opv,List.getD_cons_succ,List.getD_cons_zero,xAw,Int.lt_irrefl,decide_false,xAm,xAr,List.set_cons_succ,List.set_cons_zero,xAi,xAg,xAj,xAd,xAp,xAl,Bool.false_eq_true,↓reduceIte,xBm,xA6,xAX,xE9]
  | succ d ih =>
    intro i a G h ha hq hlb
    have hlt : (i : Int) < (rl.length : Nat) := by omega
    obtain ⟨⟨l0,l1⟩,⟨rl0',r1⟩,⟨t0,t1⟩,p1,n1⟩ := hb _ (xG6 (by omega : i < rl.length))
    rw [xFG (by omega : i < rl.length),toM]
    have hat := xDr (by omega : i < rl.length)
    generalize rl.getD i rl0 = u at *
    have hsl := xYO A (show u.l.toNat ≤ IntKind.u64.bits from by show _ ≤ 64; omega)
    have hsr := xYO B (show u.r.toNat ≤ IntKind.u64.bits from by show _ ≤ 64; omega)
    have hab := xXP (xNj hA u.l.toNat) (xNj hB u.r.toNat)
    have hbit := yEi hA hB u.l.toNat u.r.toNat
    have hs := xXQ (show u.t.toNat < 64 by omega)
    have hp := xSH (show u.t.toNat < 64 by omega)
    have hor := yCI ha hp
    have h1 := xVj hx p1
    have h2 := xVj hx n1
    have e1 : (((x &&& u.p : Nat) : Int) = ((u.p : Nat) : Int)) = (x &&& u.p = u.p) := propext ⟨fun h => by omega,fun h => by omega⟩
    have e2 : (((x &&& u.n : Nat) : Int) = 0) = (x &&& u.n = 0) := propext ⟨fun h => by omega,fun h => by omega⟩
    obtain ⟨Y,hY⟩ : ∃ Y,Y = Blk.cells false false [.int .i64 u.l,.int .i64 u.r,.int .i64 u.t,.int .u8 (u.p : Nat),.int .u8 (u.n : Nat)] := ⟨_,rfl⟩
    have g1 := xBQ (X := [Y]) hq
    have g2 := xBQ (X := [Y]) hlb
    rw [hY] at g1 g2
    have ihA : ∀ a',a' < 18446744073709551616 → ∃ X,_ := fun a' ha' => ih (i + 1) a' (G ++ [Y]) (by omega) ha' (xBQ hq) (xBQ hlb)
    by_cases c1 : A.testBit u.l.toNat = true ∧ B.testBit u.r.toNat = true
    · rw [if_pos c1] at hbit
      by_cases c2 : x &&& u.p = u.p
      · by_cases c3 : x &&& u.n = 0
        · rw [if_pos (by unfold hit xQk; rw [c1.1,c1.2,c2,c3]; simp)]
          obtain ⟨X,ih⟩ := ihA (a ||| 2 ^ u.t.toNat) (xSF ha hp)
          refine ⟨Y :: X,?_⟩
          rw [hY] at ih ⊢
          simp only [List.append_assoc,List.cons_append,List.nil_append] at ih ⊢
          rw [xF7]
          simp (maxSteps := 30000000) (disch := first | assumption | omega | (simp only [List.length_cons,List.length_nil,List.length_append,List.length_set,List.length_replicate,List.length_map,List.length_range,List.length_take,List.length_drop,List.all_cons,List.all_nil,AV.isCell,Bool.and_self,Bool.and_true,xAh,xAb,xAe,xAa,xAo] <;> omega) | rfl | decide) only [xE8,xAq,xAf,xAc,xAk,xAB,opv,List.getD_cons_succ,List.getD_cons_zero,xAw,hlt,decide_true,xAm,xAr,List.set_cons_succ,List.set_cons_zero,xAi,xAg,xAj,xAd,xAp,xAl,↓reduceIte,xAx,xAs,xAW,xAY,Int.toNat_natCast,xAH,xBn,hat,xBz,xBv,AV.cells,List.all_cons,AV.isCell,List.all_nil,Bool.and_self,xBe,List.length_cons,List.length_nil,Nat.zero_add,Nat.reduceAdd,xBJ,xCy,List.getElem?_cons_zero,xAZ,xBl,List.take_zero,List.nil_append,List.drop_succ_cons,List.drop_nil,List.append_nil,xC1,xAN,xBq,xBt,List.take_succ_cons,xAU,xA5,xBE,xA1,g1,xAu,List.drop_zero,List.take_nil,xAM,xBj,xBp,xBd,xB4,xAz,xBL,xBG,Nat.mul_one,g2,gl,xCw,xAQ,xAC,Nat.add_zero,xCY,xDW,hsl,gr,hsr,xC2,hab,hbit,xBy,Int.reduceEq,decide_false,Bool.not_false,xBC,xBu,xDG,xCL,xCa,xTB,h1,c2,xC3,xC4,xA9,xAL,xA2,xBc,xCf,xBo,xAK,xAA,h2,c3,xC0,xCv,hs,xMh,hor,xAt,xBf,xB6,xCQ,xAy,xE9,ih]
        · rw [if_neg (by unfold hit xQk; rw [c1.1,c1.2,c2]; simp [c3])]
          obtain ⟨X,ih⟩ := ihA a ha
          refine ⟨Y :: X,?_⟩
          rw [hY] at ih ⊢
          simp only [List.append_assoc,List.cons_append,List.nil_append] at ih ⊢
          rw [xF7]
          simp (maxSteps := 30000000) (disch := first | assumption | omega | (simp only [List.length_cons,List.length_nil,List.length_append,List.length_set,List.length_replicate,List.length_map,List.length_range,List.length_take,List.length_drop,List.all_cons,List.all_nil,AV.isCell,Bool.and_self,Bool.and_true,xAh,xAb,xAe,xAa,xAo] <;> omega) | rfl | decide) only [xE8,xAq,xAf,xAc,xAk,xAB,opv,List.getD_cons_succ,List.getD_cons_zero,xAw,hlt,decide_true,xAm,xAr,List.set_cons_succ,List.set_cons_zero,xAi,xAg,xAj,xAd,xAp,xAl,↓reduceIte,xAx,xAs,xAW,xAY,Int.toNat_natCast,xAH,xBn,hat,xBz,xBv,AV.cells,List.all_cons,AV.isCell,List.all_nil,Bool.and_self,xBe,List.length_cons,List.length_nil,Nat.zero_add,Nat.reduceAdd,xBJ,xCy,List.getElem?_cons_zero,xAZ,xBl,List.take_zero,List.nil_append,List.drop_succ_cons,List.drop_nil,List.append_nil,xC1,xAN,xBq,xBt,List.take_succ_cons,xAU,xA5,xBE,xA1,g1,xAu,List.drop_zero,List.take_nil,xAM,xBj,xBp,xBd,xB4,xAz,xBL,xBG,Nat.mul_one,g2,gl,xCw,xAQ,xAC,Nat.add_zero,xCY,xDW,hsl,gr,hsr,xC2,hab,hbit,xBy,Int.reduceEq,decide_false,Bool.not_false,xBC,xBu,xDG,xCL,xCa,xTB,h1,c2,xC3,xC4,xA9,xAL,xA2,xBc,xCf,xBo,xAK,xAA,h2,e2,c3,Bool.false_eq_true,xAt,xBf,xB6,xCQ,xAy,xE9,ih]
      · rw [if_neg (by unfold hit xQk; rw [c1.1,c1.2]; simp [c2])]
        obtain ⟨X,ih⟩ := ihA a ha
        refine ⟨Y :: X,?_⟩
        rw [hY] at ih ⊢
        simp only [List.append_assoc,List.cons_append,List.nil_append] at ih ⊢
        rw [xF7]
        simp (maxSteps := 30000000) (disch := first | assumption | omega | (simp only [List.length_cons,List.length_nil,List.length_append,List.length_set,List.length_replicate,List.length_map,List.length_range,List.length_take,List.length_drop,List.all_cons,List.all_nil,AV.isCell,Bool.and_self,Bool.and_true,xAh,xAb,xAe,xAa,xAo] <;> omega) | rfl | decide) only [xE8,xAq,xAf,xAc,xAk,xAB,opv,List.getD_cons_succ,List.getD_cons_zero,xAw,hlt,decide_true,xAm,xAr,List.set_cons_succ,List.set_cons_zero,xAi,xAg,xAj,xAd,xAp,xAl,↓reduceIte,xAx,xAs,xAW,xAY,Int.toNat_natCast,xAH,xBn,hat,xBz,xBv,AV.cells,List.all_cons,AV.isCell,List.all_nil,Bool.and_self,xBe,List.length_cons,List.length_nil,Nat.zero_add,Nat.reduceAdd,xBJ,xCy,List.getElem?_cons_zero,xAZ,xBl,List.take_zero,List.nil_append,List.drop_succ_cons,List.drop_nil,List.append_nil,xC1,xAN,xBq,xBt,List.take_succ_cons,xAU,xA5,xBE,xA1,g1,xAu,List.drop_zero,List.take_nil,xAM,xBj,xBp,xBd,xB4,xAz,xBL,xBG,Nat.mul_one,g2,gl,xCw,xAQ,xAC,Nat.add_zero,xCY,xDW,hsl,gr,hsr,xC2,hab,hbit,xBy,Int.reduceEq,decide_false,Bool.not_false,xBC,xBu,xDG,xCL,xCa,xTB,h1,xC3,e1,c2,xC4,xA9,xAL,Bool.false_eq_true,xCc,xA2,xBc,xCf,xBo,xAK,xAA,xAt,xBf,xB6,xCQ,xAy,xE9,ih]
    · rw [if_neg c1] at hbit
      rw [if_neg (by unfold hit; intro q; simp only [Bool.and_eq_true] at q; exact c1 q.1)]
      obtain ⟨X,ih⟩ := ihA a ha
      refine ⟨Y :: X,?_⟩
      rw [hY] at ih ⊢
      simp only [List.append_assoc,List.cons_append,List.nil_append] at ih ⊢
      rw [xF7]
      simp (maxSteps := 30000000) (disch := first | assumption | omega | (simp only [List.length_cons,List.length_nil,List.length_append,List.length_set,List.length_replicate,List.length_map,List.length_range,List.length_take,List.length_drop,List.all_cons,List.all_nil,AV.isCell,Bool.and_self,Bool.and_true,xAh,xAb,xAe,xAa,xAo] <;> omega) | rfl | decide) only [xE8,xAq,xAf,xAc,xAk,xAB,opv,List.getD_cons_succ,List.getD_cons_zero,xAw,hlt,decide_true,xAm,xAr,List.set_cons_succ,List.set_cons_zero,xAi,xAg,xAj,xAd,xAp,xAl,↓reduceIte,xAx,xAs,xAW,xAY,Int.toNat_natCast,xAH,xBn,hat,xBz,xBv,AV.cells,List.all_cons,AV.isCell,List.all_nil,Bool.and_self,xBe,List.length_cons,List.length_nil,Nat.zero_add,Nat.reduceAdd,xBJ,xCy,List.getElem?_cons_zero,xAZ,xBl,List.take_zero,List.nil_append,List.drop_succ_cons,List.drop_nil,List.append_nil,xC1,xAN,xBq,xBt,List.take_succ_cons,xAU,xA5,xBE,xA1,g1,xAu,List.drop_zero,List.take_nil,xAM,xBj,xBp,xBd,xB4,xAz,xBL,xBG,Nat.mul_one,g2,gl,xCw,xAQ,xAC,Nat.add_zero,xCY,xDW,hsl,gr,hsr,xC2,hab,hbit,xBy,Bool.not_true,xBC,xBu,Bool.false_eq_true,xCc,xC4,xA9,xAL,xA2,xBc,xCf,xBo,xAK,xAA,xAt,xBf,xB6,xCQ,xAy,xE9,ih]

set_option maxHeartbeats 1000000 in
theorem xN9 {z : Bool} {rl : List Rl} {o : List Nat} {l r x : Nat} (hl : rl.length < 1099511627776) (hb : xQl rl) (ho : ∀ w ∈ o,w < 18446744073709551616) (hol : o.length ≤ 65) (hlo : l < o.length) (hro : r < o.length) (hx : x < 256) : ∀ d i a G,i + d = rl.length → a < 18446744073709551616 →
    ∃ X,L.loop xJQ xQ0 ⟨xIp (.int .i64 (l : Nat)) (.int .i64 (r : Nat)) (.int .i64 (x : Nat)) (.vptr [.sl false o.length (w64 o)] 0) (.int .u64 (a : Nat)) (.sl z rl.length (rls rl)) (.int .i64 (rl.length : Nat)) (.int .i64 (i : Nat)),G⟩ =
      some (.exit 0,⟨xIp (.int .i64 (l : Nat)) (.int .i64 (r : Nat)) (.int .i64 (x : Nat)) (.vptr [.sl false o.length (w64 o)] 0) (.int .u64 (toM (o.getD l 0) (o.getD r 0) x a (rl.drop i) : Nat)) (.sl z rl.length (rls rl)) (.int .i64 (rl.length : Nat)) (.int .i64 (rl.length : Nat)),G ++ X⟩) := by
  have hA := ho _ (xCN (a := (0 : Nat)) hlo)
  have hB := ho _ (xCN (a := (0 : Nat)) hro)
  have gl : List.take 1 (List.drop l (w64 o)) = [.int .u64 (o.getD l 0 : Nat)] := xDv _ _ hlo
  have gr : List.take 1 (List.drop r (w64 o)) = [.int .u64 (o.getD r 0 : Nat)] := xDv _ _ hro
  generalize o.getD l 0 = A at *
  generalize o.getD r 0 = B at *
  intro d
  induction d with
  | zero =>
    intro i a G h ha
    obtain rfl : i = rl.length := by omega
    refine ⟨[],?_⟩
    rw [List.drop_length,toM,xF7,List.append_nil]
    simp (maxSteps := 30000000) (disch := first | assumption | omega | (simp only [List.length_cons,List.length_nil,List.length_append,List.length_set,List.length_replicate,List.length_map,List.length_range,List.length_take,List.length_drop,List.all_cons,List.all_nil,AV.isCell,Bool.and_self,Bool.and_true,xAh,xAb,xAe,xAa,xAo] <;> omega) | rfl | decide) only [xE8,xAq,xAf,xAc,xAk,xAB,opv,List.getD_cons_succ,List.getD_cons_zero,xAw,Int.lt_irrefl,decide_false,xAm,xAr,List.set_cons_succ,List.set_cons_zero,xAi,xAg,xAj,xAd,xAp,xAl,Bool.false_eq_true,↓reduceIte,xBm,xA6,xAX,xE9]
  | succ d ih =>
    intro i a G h ha
    have hlt : (i : Int) < (rl.length : Nat) := by omega
    obtain ⟨⟨l0,l1⟩,⟨rl0',r1⟩,⟨t0,t1⟩,p1,n1⟩ := hb _ (xG6 (by omega : i < rl.length))
    rw [xFG (by omega : i < rl.length),toM]
    have hat := xDr (by omega : i < rl.length)
    generalize rl.getD i rl0 = u at *
    have hsl := xYO A (show u.l.toNat ≤ IntKind.u64.bits from by show _ ≤ 64; omega)
    have hsr := xYO B (show u.r.toNat ≤ IntKind.u64.bits from by show _ ≤ 64; omega)
    have hab := xXP (xNj hA u.l.toNat) (xNj hB u.r.toNat)
    have hbit := yEi hA hB u.l.toNat u.r.toNat
    have hs := xXQ (show u.t.toNat < 64 by omega)
    have hp := xSH (show u.t.toNat < 64 by omega)
    have hor := yCI ha hp
    have h1 := xVj hx p1
    have h2 := xVj hx n1
    have e1 : (((x &&& u.p : Nat) : Int) = ((u.p : Nat) : Int)) = (x &&& u.p = u.p) := propext ⟨fun h => by omega,fun h => by omega⟩
    have e2 : (((x &&& u.n : Nat) : Int) = 0) = (x &&& u.n = 0) := propext ⟨fun h => by omega,fun h => by omega⟩
    obtain ⟨Y,hY⟩ : ∃ Y,Y = Blk.cells false false [.int .i64 u.l,.int .i64 u.r,.int .i64 u.t,.int .u8 (u.p : Nat),.int .u8 (u.n : Nat)] := ⟨_,rfl⟩

    have ihA : ∀ a',a' < 18446744073709551616 → ∃ X,_ := fun a' ha' => ih (i + 1) a' (G ++ [Y]) (by omega) ha'
    by_cases c1 : A.testBit u.l.toNat = true ∧ B.testBit u.r.toNat = true
    · rw [if_pos c1] at hbit
      by_cases c2 : x &&& u.p = u.p
      · by_cases c3 : x &&& u.n = 0
        · rw [if_pos (by unfold hit xQk; rw [c1.1,c1.2,c2,c3]; simp)]
          obtain ⟨X,ih⟩ := ihA (a ||| 2 ^ u.t.toNat) (xSF ha hp)
          refine ⟨Y :: X,?_⟩
          rw [hY] at ih ⊢
          simp only [List.append_assoc,List.cons_append,List.nil_append] at ih ⊢
          rw [xF7]
          simp (maxSteps := 30000000) (disch := first | assumption | omega | (simp only [List.length_cons,List.length_nil,List.length_append,List.length_set,List.length_replicate,List.length_map,List.length_range,List.length_take,List.length_drop,List.all_cons,List.all_nil,AV.isCell,Bool.and_self,Bool.and_true,xAh,xAb,xAe,xAa,xAo] <;> omega) | rfl | decide) only [xE8,xAq,xAf,xAc,xAk,xAB,opv,List.getD_cons_succ,List.getD_cons_zero,xAw,hlt,decide_true,xAm,xAr,List.set_cons_succ,List.set_cons_zero,xAi,xAg,xAj,xAd,xAp,xAl,↓reduceIte,xAx,xAs,xAW,xAY,Int.toNat_natCast,xAH,xBn,hat,xBz,xBv,AV.cells,List.all_cons,AV.isCell,List.all_nil,Bool.and_self,xBe,List.length_cons,List.length_nil,Nat.zero_add,Nat.reduceAdd,xBJ,xCy,List.getElem?_cons_zero,xAZ,xBl,List.take_zero,List.nil_append,List.drop_succ_cons,List.drop_nil,List.append_nil,xC1,xAN,xBq,xBt,List.take_succ_cons,xAU,xA5,xBE,List.drop_zero,List.take_nil,xAM,xBj,xBp,xBd,xB4,xAz,xBL,Nat.mul_one,gl,xCw,xAQ,xAC,Nat.add_zero,xA1,xAu,xCY,xDW,hsl,gr,hsr,xC2,hab,hbit,xBy,Int.reduceEq,decide_false,Bool.not_false,xBC,xBu,xDG,xCL,xCa,xTB,h1,c2,xC3,xC4,xA9,xAL,xA2,xBc,xCf,xBo,xAK,xAA,h2,c3,xC0,xCv,hs,xMh,hor,xAt,xBf,xB6,xCQ,xAy,xE9,ih]
        · rw [if_neg (by unfold hit xQk; rw [c1.1,c1.2,c2]; simp [c3])]
          obtain ⟨X,ih⟩ := ihA a ha
          refine ⟨Y :: X,?_⟩
          rw [hY] at ih ⊢
          simp only [List.append_assoc,List.cons_append,List.nil_append] at ih ⊢
          rw [xF7]
          simp (maxSteps := 30000000) (disch := first | assumption | omega | (simp only [List.length_cons,List.length_nil,List.length_append,List.length_set,List.length_replicate,List.length_map,List.length_range,List.length_take,List.length_drop,List.all_cons,List.all_nil,AV.isCell,Bool.and_self,Bool.and_true,xAh,xAb,xAe,xAa,xAo] <;> omega) | rfl | decide) only [xE8,xAq,xAf,xAc,xAk,xAB,opv,List.getD_cons_succ,List.getD_cons_zero,xAw,hlt,decide_true,xAm,xAr,List.set_cons_succ,List.set_cons_zero,xAi,xAg,xAj,xAd,xAp,xAl,↓reduceIte,xAx,xAs,xAW,xAY,Int.toNat_natCast,xAH,xBn,hat,xBz,xBv,AV.cells,List.all_cons,AV.isCell,List.all_nil,Bool.and_self,xBe,List.length_cons,List.length_nil,Nat.zero_add,Nat.reduceAdd,xBJ,xCy,List.getElem?_cons_zero,xAZ,xBl,List.take_zero,List.nil_append,List.drop_succ_cons,List.drop_nil,List.append_nil,xC1,xAN,xBq,xBt,List.take_succ_cons,xAU,xA5,xBE,List.drop_zero,List.take_nil,xAM,xBj,xBp,xBd,xB4,xAz,xBL,Nat.mul_one,gl,xCw,xAQ,xAC,Nat.add_zero,xA1,xAu,xCY,xDW,hsl,gr,hsr,xC2,hab,hbit,xBy,Int.reduceEq,decide_false,Bool.not_false,xBC,xBu,xDG,xCL,xCa,xTB,h1,c2,xC3,xC4,xA9,xAL,xA2,xBc,xCf,xBo,xAK,xAA,h2,e2,c3,Bool.false_eq_true,xAt,xBf,xB6,xCQ,xAy,xE9,ih]
      · rw [if_neg (by unfold hit xQk; rw [c1.1,c1.2]; simp [c2])]
        obtain ⟨X,ih⟩ := ihA a ha
        refine ⟨Y :: X,?_⟩
        rw [hY] at ih ⊢
        simp only [List.append_assoc,List.cons_append,List.nil_append] at ih ⊢
        rw [xF7]
        simp (maxSteps := 30000000) (disch := first | assumption | omega | (simp only [List.length_cons,List.length_nil,List.length_append,List.length_set,List.length_replicate,List.length_map,List.length_range,List.length_take,List.length_drop,List.all_cons,List.all_nil,AV.isCell,Bool.and_self,Bool.and_true,xAh,xAb,xAe,xAa,xAo] <;> omega) | rfl | decide) only [xE8,xAq,xAf,xAc,xAk,xAB,opv,List.getD_cons_succ,List.getD_cons_zero,xAw,hlt,decide_true,xAm,xAr,List.set_cons_succ,List.set_cons_zero,xAi,xAg,xAj,xAd,xAp,xAl,↓reduceIte,xAx,xAs,xAW,xAY,Int.toNat_natCast,xAH,xBn,hat,xBz,xBv,AV.cells,List.all_cons,AV.isCell,List.all_nil,Bool.and_self,xBe,List.length_cons,List.length_nil,Nat.zero_add,Nat.reduceAdd,xBJ,xCy,List.getElem?_cons_zero,xAZ,xBl,List.take_zero,List.nil_append,List.drop_succ_cons,List.drop_nil,List.append_nil,xC1,xAN,xBq,xBt,List.take_succ_cons,xAU,xA5,xBE,List.drop_zero,List.take_nil,xAM,xBj,xBp,xBd,xB4,xAz,xBL,Nat.mul_one,gl,xCw,xAQ,xAC,Nat.add_zero,xA1,xAu,xCY,xDW,hsl,gr,hsr,xC2,hab,hbit,xBy,Int.reduceEq,decide_false,Bool.not_false,xBC,xBu,xDG,xCL,xCa,xTB,h1,xC3,e1,c2,xC4,xA9,xAL,Bool.false_eq_true,xCc,xA2,xBc,xCf,xBo,xAK,xAA,xAt,xBf,xB6,xCQ,xAy,xE9,ih]
    · rw [if_neg c1] at hbit
      rw [if_neg (by unfold hit; intro q; simp only [Bool.and_eq_true] at q; exact c1 q.1)]
      obtain ⟨X,ih⟩ := ihA a ha
      refine ⟨Y :: X,?_⟩
      rw [hY] at ih ⊢
      simp only [List.append_assoc,List.cons_append,List.nil_append] at ih ⊢
      rw [xF7]
      simp (maxSteps := 30000000) (disch := first | assumption | omega | (simp only [List.length_cons,List.length_nil,List.length_append,List.length_set,List.length_replicate,List.length_map,List.length_range,List.length_take,List.length_drop,List.all_cons,List.all_nil,AV.isCell,Bool.and_self,Bool.and_true,xAh,xAb,xAe,xAa,xAo] <;> omega) | rfl | decide) only [xE8,xAq,xAf,xAc,xAk,xAB,opv,List.getD_cons_succ,List.getD_cons_zero,xAw,hlt,decide_true,xAm,xAr,List.set_cons_succ,List.set_cons_zero,xAi,xAg,xAj,xAd,xAp,xAl,↓reduceIte,xAx,xAs,xAW,xAY,Int.toNat_natCast,xAH,xBn,hat,xBz,xBv,AV.cells,List.all_cons,AV.isCell,List.all_nil,Bool.and_self,xBe,List.length_cons,List.length_nil,Nat.zero_add,Nat.reduceAdd,xBJ,xCy,List.getElem?_cons_zero,xAZ,xBl,List.take_zero,List.nil_append,List.drop_succ_cons,List.drop_nil,List.append_nil,xC1,xAN,xBq,xBt,List.take_succ_cons,xAU,xA5,xBE,List.drop_zero,List.take_nil,xAM,xBj,xBp,xBd,xB4,xAz,xBL,Nat.mul_one,gl,xCw,xAQ,xAC,Nat.add_zero,xA1,xAu,xCY,xDW,hsl,gr,hsr,xC2,hab,hbit,xBy,Bool.not_true,xBC,xBu,Bool.false_eq_true,xCc,xC4,xA9,xAL,xA2,xBc,xCf,xBo,xAK,xAA,xAt,xBf,xB6,xCQ,xAy,xE9,ih]

theorem xX7 {n : Aut} {o : List Nat} {l r x p q lb : Nat} {G : xAv} (hl : n.rl.length < 1099511627776) (hb : xQl n.rl) (ho : ∀ w ∈ o,w < 18446744073709551616) (hol : o.length ≤ 65) (hlo : l < o.length) (hro : r < o.length) (hx : x < 256)
    (hp : G[p]? = some (.cells false false n.cells)) (hq : G[q]? = some (.cells false false [.own false lb 0 o.length 1])) (hlb : G[lb]? = some (.cells false false (w64 o))) :
    ∃ X,L.icall (.func 74 [.ptr p 0,.ptr q 0]) [.int .i64 (l : Nat),.int .i64 (r : Nat),.int .i64 (x : Nat)] G = some (.int .u64 (toM (o.getD l 0) (o.getD r 0) x 0 n.rl : Nat),G ++ X) := by
  obtain ⟨X,h⟩ := xN8 (z := n.z3) hl hb ho hol hlo hro hx n.rl.length 0 0 G (by omega) (by omega) hq hlb
  refine ⟨X,?_⟩
  simp only [Int.natCast_zero,List.drop_zero] at h
  rw [yEw,a74]
  simp (maxSteps := 30000000) (disch := first | assumption | omega | (simp only [List.length_cons,List.length_nil,List.length_append,List.length_set,List.length_replicate,List.length_map,List.length_range,List.length_take,List.length_drop,List.all_cons,List.all_nil,AV.isCell,Bool.and_self,Bool.and_true,xAh,xAb,xAe,xAa,xAo] <;> omega) | rfl | decide) only [List.cons_append,List.nil_append,xAT,List.length_cons,List.length_nil,Nat.zero_add,Nat.reduceAdd,Nat.reduceSub,xCF,xAq,xAf,xAc,xAk,xAz,opv,xAr,List.set_cons_succ,List.set_cons_zero,xAi,xAg,xAj,xAd,xAQ,List.getD_cons_succ,List.getD_cons_zero,xAC,xAm,xAH,xA1,hp,xAu,List.drop_succ_cons,List.drop_zero,List.take_succ_cons,List.take_nil,xAM,xA3,xA4,xAs,xA7,xE9,h,xAR,↓reduceIte,xA0,xAP,xAV,xBk,xAD]
theorem xUT {n : Aut} {o : List Nat} {l r x : Nat} (hl : n.rl.length < 1099511627776) (hb : xQl n.rl) (ho : ∀ w ∈ o,w < 18446744073709551616) (hol : o.length ≤ 65) (hlo : l < o.length) (hro : r < o.length) (hx : x < 256) :
    L.pcall 74 [.int .i64 (l : Nat),.int .i64 (r : Nat),.int .i64 (x : Nat),.vptr n.cells 0,.vptr [.sl false o.length (w64 o)] 0] = some (.int .u64 (toM (o.getD l 0) (o.getD r 0) x 0 n.rl : Nat)) := by
  obtain ⟨X,h⟩ := xN9 (z := n.z3) hl hb ho hol hlo hro hx n.rl.length 0 0 [] (by omega) (by omega)
  simp only [Int.natCast_zero,List.drop_zero] at h
  rw [yEv,a74,xBA]
  simp (maxSteps := 30000000) (disch := first | assumption | omega | (simp only [List.length_cons,List.length_nil,List.length_append,List.length_set,List.length_replicate,List.length_map,List.length_range,List.length_take,List.length_drop,List.all_cons,List.all_nil,AV.isCell,Bool.and_self,Bool.and_true,xAh,xAb,xAe,xAa,xAo] <;> omega) | rfl | decide) only [xAT,List.length_cons,List.length_nil,Nat.zero_add,Nat.reduceAdd,Nat.reduceSub,xCF,List.cons_append,List.nil_append,xAq,xAf,xAc,xAk,xAz,opv,xAr,List.set_cons_succ,List.set_cons_zero,xAi,xAg,xAj,xAd,xAQ,List.getD_cons_succ,List.getD_cons_zero,xNw,xAm,xAH,xBn,List.drop_succ_cons,List.drop_zero,List.take_succ_cons,List.take_nil,xAM,xA3,xA4,xAs,xA7,xE9,h,xAR,↓reduceIte,xA0,xAP,xAV,xBk,xAD,xAS,xBP,xBa]
end Go.Abs.Det

/- Determinize: the numbered words,the call of explore. -/
namespace Go.Abs.Det
open Go Go.Abs
set_option linter.unusedSimpArgs false
set_option linter.unusedVariables false

def xK4 (k : Nat) : List Nat → Nat → Option Nat
  | [],_ => none
  | k' :: ks,i => if k = k' then some i else xK4 k ks (i + 1)
def xQm : List Nat → Nat → List (AV × AV)
  | [],_ => []
  | k :: ks,i => (.int .u64 (k : Nat),.int .i64 (i : Nat)) :: xQm ks (i + 1)
theorem xNk (k : Nat) : ∀ (ks : List Nat) (i : Nat),xQm (ks ++ [k]) i = xQm ks i ++ [(.int .u64 (k : Nat),.int .i64 ((i + ks.length : Nat) : Int))]
  | [],i => rfl
  | k' :: ks,i => by
    rw [List.cons_append,xQm,xQm,xNk k ks (i + 1),List.length_cons,List.cons_append]
    congr 4
    rw [show i + 1 + ks.length = i + (ks.length + 1) by omega]
theorem xNl (a b : Nat) : xF5 (.int .u64 (a : Nat)) (.int .u64 (b : Nat)) = some (decide (a = b)) := by
  simp only [xF5,xM0]
  by_cases h : a = b
  · simp [h]
  · have : ((a : Int) == (b : Int)) = false := by rw [beq_eq_false_iff_ne]; omega
    simp [h,this]
theorem xJv {k : Nat} : ∀ (ks : List Nat) (i : Nat),xI8 (.int .u64 (k : Nat)) (xQm ks i) = some ((xK4 k ks i).map fun (j : Nat) => AV.int .i64 (j : Nat))
  | [],i => rfl
  | k' :: ks,i => by
    simp only [xQm,xI8,xNl,xK4]
    by_cases c : k = k'
    · simp [c]
    · simp only [c,decide_false]
      rw [xJv ks (i + 1)]
      simp
theorem xPq {k : Nat} {v : AV} : ∀ (ks : List Nat) (i : Nat),xK4 k ks i = none → xQh (.int .u64 (k : Nat)) v (xQm ks i) = some (xQm ks i ++ [(.int .u64 (k : Nat),v)])
  | [],i,_ => rfl
  | k' :: ks,i,hn => by
    unfold xK4 at hn
    split at hn
    · cases hn
    rename_i c
    simp only [xQm,xQh,xNl,c,decide_false]
    rw [xPq ks (i + 1) hn]
    rfl
theorem xNm {k : Nat} : ∀ {ks : List Nat} {i j : Nat},xK4 k ks i = some j → i ≤ j ∧ ks[j - i]? = some k
  | [],i,j,h => by cases h
  | k' :: ks,i,j,h => by
    unfold xK4 at h
    split at h
    · rename_i c
      cases h
      exact ⟨Nat.le_refl _,by rw [Nat.sub_self,c]; rfl⟩
    · obtain ⟨h1,h2⟩ := xNm h
      refine ⟨by omega,?_⟩
      rw [show j - i = (j - (i + 1)) + 1 by omega]
      exact h2
theorem idxN_none {k : Nat} : ∀ {ks : List Nat} {i : Nat},xK4 k ks i = none ↔ k ∉ ks
  | [],i => by simp [xK4]
  | k' :: ks,i => by
    unfold xK4
    split
    · rename_i c; simp [c]
    · rename_i c
      rw [idxN_none (ks := ks)]
      simp [c]
def xQn (o : List Nat) (s : Nat) : Nat := (xK4 s o 0).getD 0
theorem xUU {o : List Nat} {s : Nat} (h : s ∈ o) : xQn o s < o.length ∧ o.getD (xQn o s) 0 = s := by
  unfold xQn
  cases hi : xK4 s o 0 with
  | none => exact absurd h (idxN_none.1 hi)
  | some j =>
    obtain ⟨_,q⟩ := xNm hi
    rw [Nat.sub_zero] at q
    obtain ⟨h1,h2⟩ := List.getElem?_eq_some_iff.1 q
    refine ⟨h1,?_⟩
    show o.getD j 0 = s
    rw [List.getD_eq_getElem?_getD,q]; rfl

def xH9 (n : Aut) (o : List Nat) (l r x : Nat) : Nat := toM (o.getD l 0) (o.getD r 0) x 0 n.rl
def xCS (n : Aut) (o : List Nat) (l r x : Nat) : List Nat := if xH9 n o l r x ∈ o then o else o ++ [xH9 n o l r x]

structure DetI (n : Aut) (bu : Nat) (o : List Nat) (lb : Nat) (G : xAv) : Prop where
  nd : o.Nodup
  bd : ∀ w ∈ o,w < 18446744073709551616
  b0 : G[0]? = some (.cells false false n.cells)
  b1 : G[1]? = some (.cells false false [.int .i64 (bu : Nat)])
  b2 : G[2]? = some (.cells false false [.int .i64 0,.int .i64 0,.sl true 0 [],.sl true 0 []])
  b5 : G[5]? = some (.mp (xQm o 0))
  b6 : G[6]? = some (.cells false false [.mp 5])
  b7 : G[7]? = some (.cells false false [.func 74 [.ptr 0 0,.ptr 4 0]])
  b8 : G[8]? = some (.cells false false [.bool (decide (bu < o.length))])
  b4 : G[4]? = some (.cells false false [.own false lb 0 o.length 1])
  bl : G[lb]? = some (.cells false false (w64 o))
  lo : lb = 3 ∨ 9 ≤ lb

theorem DetI.app {n : Aut} {bu : Nat} {o : List Nat} {lb : Nat} {G : xAv} (h : DetI n bu o lb G) (X : xAv) : DetI n bu o lb (G ++ X) :=
  ⟨h.nd,h.bd,xBQ h.b0,xBQ h.b1,xBQ h.b2,xBQ h.b5,xBQ h.b6,xBQ h.b7,xBQ h.b8,xBQ h.b4,xBQ h.bl,h.lo⟩
theorem xVT {n : Aut} (hb : xQl n.rl) (o : List Nat) (l r x : Nat) : xH9 n o l r x < 18446744073709551616 := xVO _ _ _ _ _ (by omega) hb

set_option maxRecDepth 10000 in
set_option maxHeartbeats 4000000 in
theorem yAo {n : Aut} {bu : Nat} {o : List Nat} {lb : Nat} {G : xAv} {l r x p : Nat} (hrl : n.rl.length < 1099511627776) (hb : xQl n.rl) (hbu : bu ≤ 64) (hI : DetI n bu o lb G) (hok : o.length ≤ bu) (hl : l < o.length) (hr : r < o.length) (hx : x < 256) (hp : 9 ≤ p) (hpl : p ≠ lb) (hpg : p < G.length) :
    ∃ G' lb',L.icall (.func 76 [.ptr 7 0,.ptr 6 0,.ptr 4 0,.ptr 1 0,.ptr 8 0]) [.int .i64 (l : Nat),.int .i64 (r : Nat),.int .i64 (x : Nat)] G = some (.int .i64 (xJl (xCS n o l r x).length (decide (bu < (xCS n o l r x).length))),G') ∧
      DetI n bu (xCS n o l r x) lb' G' ∧ G'[p]? = G[p]? ∧ p ≠ lb' := by
  have hlt := xVT hb o l r x
  obtain ⟨X,ha⟩ := xX7 (G := G) hrl hb hI.bd (by omega) hl hr hx hI.b0 hI.b4 hI.bl
  have hI2 := hI.app X
  have hpg2 : (G ++ X)[p]? = G[p]? := List.getElem?_append_left hpg
  have hpl2 : p < (G ++ X).length := by rw [List.length_append]; omega
  have hb7 := hI.b7
  have hord : xCS n o l r x = if xH9 n o l r x ∈ o then o else o ++ [xH9 n o l r x] := rfl
  rw [show toM (o.getD l 0) (o.getD r 0) x 0 n.rl = xH9 n o l r x from rfl] at ha
  generalize xH9 n o l r x = w at *
  generalize xCS n o l r x = o2 at *
  rw [← hpg2]
  generalize hG2 : G ++ X = G2 at *
  obtain ⟨nd,bd,b0,b1,b2,b5,b6,b7,b8,b4,bl,lo⟩ := hI2
  have hbl := (List.getElem?_eq_some_iff.1 bl).1
  have hb8 := (List.getElem?_eq_some_iff.1 b8).1
  have hf := xJv (k := w) o 0
  cases hidx : xK4 w o 0 with
  | some j =>
    rw [hidx] at hf
    have hmem : w ∈ o := Classical.byContradiction fun h => by rw [idxN_none.2 h] at hidx; cases hidx
    rw [if_pos hmem] at hord
    subst hord
    have c : ¬ bu < o2.length := by omega
    have c2 : ¬ ((bu : Nat) : Int) < (o2.length : Nat) := by omega
    have xD1 : G2.set 8 (.cells false false [.bool false]) = G2 := by
      have : G2[8] = .cells false false [.bool false] := by
        have := (List.getElem?_eq_some_iff.1 b8).2
        rw [this]; simp [c]
      rw [← this,List.set_getElem_self]
    have b8' : G2[8]? = some (.cells false false [.bool false]) := by rw [b8]; simp [c]
    refine ⟨G2,lb,?_,⟨nd,bd,b0,b1,b2,b5,b6,b7,b8,b4,bl,lo⟩,rfl,hpl⟩
    rw [show decide (bu < o2.length) = false by simp [c]]
    unfold xJl
    rw [yBH,a76]
    simp (maxSteps := 30000000) (disch := first | assumption | omega | (simp only [List.length_cons,List.length_nil,List.length_append,List.length_set,List.length_replicate,List.length_map,List.length_range,List.length_take,List.length_drop,List.all_cons,List.all_nil,AV.isCell,Bool.and_self,Bool.and_true,xAh,xAb,xAe,xAa,List.length_map] <;> omega) | rfl | decide) only [Int.reduceNeg,List.cons_append,List.nil_append,xAT,List.length_cons,List.length_nil,Nat.zero_add,Nat.reduceAdd,Nat.reduceSub,xCF,xAq,xAf,xAc,xAk,xAz,opv,xAr,List.set_cons_succ,List.set_cons_zero,xAi,xAg,xAj,xAd,xAH,List.getD_cons_succ,List.getD_cons_zero,xA1,hb7,xAu,List.drop_zero,List.take_succ_cons,List.take_nil,xAM,xAm,xCd,List.map_cons,List.map_nil,ha,b6,xH7,xEf,↓reduceIte,xKZ,b5,xEn,xF2,hf,Option.map_some,xNg,xMj,xGI,List.getElem?_cons_zero,List.getElem?_cons_succ,xGn,xEh,Bool.not_true,xAp,xAl,Bool.false_eq_true,xAx,b4,xA3,xBT,b1,xAB,xBS,c2,decide_false,xBe,AV.cells,xBJ,b8',xAZ,xBl,List.take_zero,List.drop_succ_cons,List.drop_nil,List.append_nil,xD1,xAN,xBq,xA0,xAP,xAV,xBk,xAD]
  | none =>
    rw [hidx] at hf
    have hmem : w ∉ o := idxN_none.1 hidx
    rw [if_neg hmem] at hord
    have hupd := xPq (v := .int .i64 ((o.length : Nat) : Int)) o 0 hidx
    have hsn := xNk w o 0
    rw [Nat.zero_add] at hsn
    rw [← hsn] at hupd
    have hln : o2.length = o.length + 1 := by rw [hord]; simp
    have z4 : ∀ X : Blk,(G2.set 5 X)[4]? = some (.cells false false [.own false lb 0 o.length 1]) := fun X => by rw [List.getElem?_set_ne (by omega)]; exact b4
    have zl : ∀ X : Blk,(G2.set 5 X)[lb]? = some (.cells false false (w64 o)) := fun X => by rw [List.getElem?_set_ne (by omega)]; exact bl
    have htk : List.take o.length (w64 o) = w64 o := by rw [List.take_of_length_le]; rw [xAe]; exact Nat.le_refl _
    have hw : w64 o ++ [AV.int .u64 (w : Nat)] = w64 o2 := by rw [hord]; simp [w64]
    rw [← hord] at hupd
    have z4b : ∀ (X : Blk) (T : xAv),((G2.set 5 X).set lb .dead ++ T)[4]? = some (.cells false false [.own false lb 0 o.length 1]) := fun X T => xBQ (by rw [List.getElem?_set_ne (by omega)]; exact z4 X)
    have z4c : ∀ (X Y : Blk) (T : xAv),(((G2.set 5 X).set lb .dead ++ T).set 4 Y)[4]? = some Y := fun X Y T => List.getElem?_set_self (by simp; omega)
    have z1c : ∀ (X Y : Blk) (T : xAv),(((G2.set 5 X).set lb .dead ++ T).set 4 Y)[1]? = some (.cells false false [.int .i64 (bu : Nat)]) := fun X Y T => by
      rw [List.getElem?_set_ne (by omega),List.getElem?_append_left (by simp; omega),List.getElem?_set_ne (by omega),List.getElem?_set_ne (by omega)]; exact b1
    have z8c : ∀ (X Y : Blk) (T : xAv),(((G2.set 5 X).set lb .dead ++ T).set 4 Y)[8]? = some (.cells false false [.bool (decide (bu < o.length))]) := fun X Y T => by
      rw [List.getElem?_set_ne (by omega),List.getElem?_append_left (by simp; omega),List.getElem?_set_ne (by omega),List.getElem?_set_ne (by omega)]; exact b8
    have z8d : ∀ (X Y Z : Blk) (T : xAv),((((G2.set 5 X).set lb .dead ++ T).set 4 Y).set 8 Z)[8]? = some Z := fun X Y Z T => List.getElem?_set_self (by simp; omega)
    have z4d : ∀ (X Y Z : Blk) (T : xAv),((((G2.set 5 X).set lb .dead ++ T).set 4 Y).set 8 Z)[4]? = some Y := fun X Y Z T => by rw [List.getElem?_set_ne (by omega)]; exact z4c X Y T
    obtain ⟨G',hG'⟩ : ∃ G' : xAv,G' = ((((G2.set 5 (.mp (xQm o2 0))).set lb .dead) ++ [Blk.cells false false (w64 o2)]).set 4 (.cells false false [.own false G2.length 0 (o.length + 1) 1])).set 8 (.cells false false [.bool (decide (bu < o.length + 1))]) := ⟨_,rfl⟩
    have old : ∀ b,b ≠ 5 → b ≠ lb → b ≠ 4 → b ≠ 8 → b < G2.length → G'[b]? = G2[b]? := fun b h2 h3 h4 h6 h5 => by
      rw [hG',List.getElem?_set_ne (Ne.symm h6),List.getElem?_set_ne (Ne.symm h4),List.getElem?_append_left (by simpa using h5),List.getElem?_set_ne (Ne.symm h3),List.getElem?_set_ne (Ne.symm h2)]
    refine ⟨G',G2.length,?_,⟨?_,?_,(old 0 (by omega) (by omega) (by omega) (by omega) (by omega)).trans b0,(old 1 (by omega) (by omega) (by omega) (by omega) (by omega)).trans b1,(old 2 (by omega) (by omega) (by omega) (by omega) (by omega)).trans b2,?_,(old 6 (by omega) (by omega) (by omega) (by omega) (by omega)).trans b6,(old 7 (by omega) (by omega) (by omega) (by omega) (by omega)).trans b7,?_,?_,?_,.inr (by omega)⟩,old p (by omega) hpl (by omega) (by omega) hpl2,by omega⟩
    · rw [hln,hG']
      by_cases c : bu < o.length + 1
      · have c2 : ((bu : Nat) : Int) < (o.length + 1 : Nat) := by omega
        have c3 : ((bu : Nat) : Int) < (o.length : Nat) + 1 := by omega
        rw [show decide (bu < o.length + 1) = true by simp [c]]
        unfold xJl
        rw [yBH,a76]
        simp (maxSteps := 30000000) (disch := first | assumption | omega | (simp only [List.length_cons,List.length_nil,List.length_append,List.length_set,List.length_replicate,List.length_map,List.length_range,List.length_take,List.length_drop,List.all_cons,List.all_nil,AV.isCell,Bool.and_self,Bool.and_true,xAh,xAb,xAe,xAa,List.length_map] <;> omega) | rfl | decide) only [Int.reduceNeg,List.cons_append,List.nil_append,xAT,List.length_cons,List.length_nil,Nat.zero_add,Nat.reduceAdd,Nat.reduceSub,xCF,xAq,xAf,xAc,xAk,xAz,opv,xAr,List.set_cons_succ,List.set_cons_zero,xAi,xAg,xAj,xAd,xAH,List.getD_cons_succ,List.getD_cons_zero,xA1,hb7,xAu,List.drop_zero,List.take_succ_cons,List.take_nil,xAM,xAm,xCd,List.map_cons,List.map_nil,ha,b6,xH7,xEf,↓reduceIte,xKZ,b5,xEn,xF2,hf,Option.map_none,xPn,xMj,xGI,List.getElem?_cons_zero,List.getElem?_cons_succ,xGn,xEh,Bool.not_false,xAp,xAl,b4,xA3,xBT,xK1,xK0,xFI,hupd,xHa,xBq,z4,xBY,AV.cells,List.all_cons,beq_self_eq_true,List.all_nil,Bool.and_self,xDh,List.append_nil,Nat.mul_one,xCm,Nat.le_refl,AV.isCell,and_self,xBl,List.take_zero,List.drop_succ_cons,List.drop_nil,xBX,xCn,xBP,List.flatMap_cons,xCp,List.flatMap_nil,List.isEmpty_nil,List.mapM_cons,xBa,List.mapM_nil,Option.pure_def,Option.bind_eq_bind,Option.bind_some,xCi,xBZ,xDs,xFN,zl,xEV,Nat.reduceBEq,List.length_set,htk,hw,xBe,xBJ,z4b,xAZ,xAN,z4c,z1c,xAB,xBS,c2,decide_true,z8c,z8d,xA0,xBb,xAP,xAV,xBk,xAD]
      · have c2 : ¬ ((bu : Nat) : Int) < (o.length + 1 : Nat) := by omega
        have c3 : ¬ ((bu : Nat) : Int) < (o.length : Nat) + 1 := by omega
        rw [show decide (bu < o.length + 1) = false by simp [c]]
        unfold xJl
        rw [yBH,a76]
        simp (maxSteps := 30000000) (disch := first | assumption | omega | (simp only [List.length_cons,List.length_nil,List.length_append,List.length_set,List.length_replicate,List.length_map,List.length_range,List.length_take,List.length_drop,List.all_cons,List.all_nil,AV.isCell,Bool.and_self,Bool.and_true,xAh,xAb,xAe,xAa,List.length_map] <;> omega) | rfl | decide) only [Int.reduceNeg,List.cons_append,List.nil_append,xAT,List.length_cons,List.length_nil,Nat.zero_add,Nat.reduceAdd,Nat.reduceSub,xCF,xAq,xAf,xAc,xAk,xAz,opv,xAr,List.set_cons_succ,List.set_cons_zero,xAi,xAg,xAj,xAd,xAH,List.getD_cons_succ,List.getD_cons_zero,xA1,hb7,xAu,List.drop_zero,List.take_succ_cons,List.take_nil,xAM,xAm,xCd,List.map_cons,List.map_nil,ha,b6,xH7,xEf,↓reduceIte,xKZ,b5,xEn,xF2,hf,Option.map_none,xPn,xMj,xGI,List.getElem?_cons_zero,List.getElem?_cons_succ,xGn,xEh,Bool.not_false,xAp,xAl,b4,xA3,xBT,xK1,xK0,xFI,hupd,xHa,xBq,z4,xBY,AV.cells,List.all_cons,beq_self_eq_true,List.all_nil,Bool.and_self,xDh,List.append_nil,Nat.mul_one,xCm,Nat.le_refl,AV.isCell,and_self,xBl,List.take_zero,List.drop_succ_cons,List.drop_nil,xBX,xCn,xBP,List.flatMap_cons,xCp,List.flatMap_nil,List.isEmpty_nil,List.mapM_cons,xBa,List.mapM_nil,Option.pure_def,Option.bind_eq_bind,Option.bind_some,xCi,xBZ,xDs,xFN,zl,xEV,Nat.reduceBEq,List.length_set,htk,hw,xBe,xBJ,z4b,xAZ,xAN,z4c,z1c,xAB,xBS,c2,decide_false,z8c,z8d,Bool.false_eq_true,xAx,z4d,xA0,xAP,xAV,xBk,xAD]
    · rw [hord,List.nodup_append]
      refine ⟨nd,by simp,fun a ha' b hb' => ?_⟩
      rw [List.mem_singleton] at hb'
      intro e
      exact hmem (by rw [← hb',← e]; exact ha')
    · intro s hs
      rw [hord] at hs
      rcases List.mem_append.1 hs with q | q
      · exact bd s q
      · rw [List.mem_singleton] at q
        subst q
        exact hlt
    · rw [hG',List.getElem?_set_ne (by omega),List.getElem?_set_ne (by omega),List.getElem?_append_left (by simp; omega),List.getElem?_set_ne (by omega),List.getElem?_set_self (by omega)]
    · rw [hG',List.getElem?_set_self (by simp; omega),hln]
    · rw [hG',List.getElem?_set_ne (by omega),List.getElem?_set_self (by simp; omega),hln]
    · rw [hG',List.getElem?_set_ne (by omega),List.getElem?_set_ne (by omega),List.getElem?_append_right (by simp)]; simp
end Go.Abs.Det

/- Determinize: explore over its call; the reading calls. -/
namespace Go.Abs.Det
open Go Go.Abs
set_option linter.unusedSimpArgs false
set_option linter.unusedVariables false

theorem xOa {v : Int} (h3 : v ≤ 3) : two v ≤ 8 := (xFe h3).1

theorem xX8 {n : Aut} {bu : Nat} (hV : Valid n) (hb : xQl n.rl) (hbu : bu ≤ 64) : Exp n.vars 9 bu (.func 76 [.ptr 7 0,.ptr 6 0,.ptr 4 0,.ptr 1 0,.ptr 8 0]) List.length (fun o => decide (bu < o.length)) (xCS n) (DetI n bu) where
  v0 := hV.v0
  v3 := hV.v3
  n64 := hbu
  grow := fun s lb G X h => h.app [X]
  lb := fun s lb G h => ⟨(List.getElem?_eq_some_iff.1 h.bl).1,(List.getElem?_eq_some_iff.1 h.b8).1⟩
  le := fun s lb G h hb => by simpa using hb
  mono := fun s l r x => by
    unfold xCS
    split
    · exact Nat.le_refl _
    · simp
  call := fun s lb G l r x p hI hbd hl hr hx hp hpl hpg => by
    have h8 := xOa hV.v3
    have hbd' : s.length ≤ bu := by simpa using hbd
    obtain ⟨G',lb',h1,h2,h3,h4⟩ := yAo (by have := hV.rl; omega) hb hbu hI hbd' hl hr (show x < 256 by omega) hp hpl hpg
    exact ⟨G',lb',h1,h2,h3,h4⟩

def xFg (n : Aut) (bu : Nat) : List Nat := goK List.length (fun o => decide (bu < o.length)) (xCS n) (two n.vars) 0 bu [xDA 0 n.st]

set_option maxRecDepth 10000 in
set_option maxHeartbeats 2000000 in
theorem yAp {n : Aut} {bu : Nat} {o : List Nat} {lb : Nat} {G : xAv} {l r x : Nat} (hrl : n.rl.length < 1099511627776) (hb : xQl n.rl) (hol : o.length ≤ 65) (hI : DetI n bu o lb G) (hl : l < o.length) (hr : r < o.length) (hx : x < 256) (hm : xH9 n o l r x ∈ o) :
    L.icall (.func 78 [.ptr 6 0,.ptr 7 0]) [.int .i64 (l : Nat),.int .i64 (r : Nat),.int .i64 (x : Nat)] G = some (.int .i64 (xQn o (xH9 n o l r x) : Nat),G) := by
  have ha := xUT hrl hb hI.bd hol hl hr hx
  rw [show toM (o.getD l 0) (o.getD r 0) x 0 n.rl = xH9 n o l r x from rfl] at ha
  obtain ⟨nd,bd,b0,b1,b2,b5,b6,b7,b8,b4,bl,lo⟩ := hI
  generalize xH9 n o l r x = w at *
  have hf := xJv (k := w) o 0
  unfold xQn
  have htk : List.take o.length (w64 o) = w64 o := by rw [List.take_of_length_le]; rw [xAe]; exact Nat.le_refl _
  cases hidx : xK4 w o 0 with
  | none => exact absurd hm (idxN_none.1 hidx)
  | some j =>
    rw [hidx] at hf
    rw [yEz,a78]
    simp (maxSteps := 30000000) (disch := first | assumption | omega | (simp only [List.length_cons,List.length_nil,List.length_append,List.length_set,List.length_replicate,List.length_map,List.length_range,List.length_take,List.length_drop,List.all_cons,List.all_nil,AV.isCell,Bool.and_self,Bool.and_true,xAh,xAb,xAe,xAa,List.length_map] <;> omega) | rfl | decide) only [List.cons_append,List.nil_append,xAT,List.length_cons,List.length_nil,Nat.zero_add,Nat.reduceAdd,Nat.reduceSub,xCF,xAq,xAf,xAc,xAk,xAz,opv,xAr,List.set_cons_succ,List.set_cons_zero,xAi,xAg,xAj,xAd,xBt,List.take_succ_cons,List.take_zero,xAU,xA5,xBE,xAH,List.getD_cons_succ,List.getD_cons_zero,xA1,b6,xAu,List.drop_zero,List.take_nil,xAM,xAm,xBj,xBp,xBd,b7,xB4,xTK,List.map_cons,List.map_nil,xMm,xBi,xBP,List.mapM_cons,xBa,xWv,b0,xPx,xB0,List.mapM_nil,Option.pure_def,Option.bind_eq_bind,Option.bind_some,Option.map_some,b4,xEz,bl,xCW,Nat.mul_one,htk,xSD,xCi,xBh,ha,xBg,xDx,xCq,↓reduceIte,xEW,xDn,List.flatMap_cons,xCp,xWx,xNx,xDP,List.flatMap_nil,List.append_nil,xWz,xPz,xXN,List.all_cons,xPy,List.all_nil,Bool.and_true,Bool.true_or,xA2,xBc,List.drop_succ_cons,xCf,xBo,xH7,xEf,xKZ,b5,xEn,xF2,hf,xNg,Bool.false_eq_true,xA0,xAP,xAV,xBk,xAD,Option.getD_some]

theorem yAq {o : List Nat} {lb b : Nat} {G : xAv} {l : Nat} {f : Int} (ho : ∀ w ∈ o,w < 18446744073709551616) (hl : l < o.length) (h0 : 0 ≤ f) (h64 : f < 64) (b4 : G[4]? = some (.cells false false [.own false lb 0 o.length 1])) (bl : G[lb]? = some (.cells false false (w64 o))) (bb : G[b]? = some (.cells false false [.int .i64 (l : Nat)])) :
    L.icall (.func 81 [.ptr 4 0,.ptr b 0]) [.int .i64 f] G = some (.bool ((o.getD l 0).testBit f.toNat),G) := by
  have hA := ho _ (xCN (a := (0 : Nat)) hl)
  have gl : List.take 1 (List.drop l (w64 o)) = [.int .u64 (o.getD l 0 : Nat)] := xDv _ _ hl
  generalize o.getD l 0 = A at *
  have hs := xYO A (show f.toNat ≤ IntKind.u64.bits from by show _ ≤ 64; omega)
  have hb := yCK hA f.toNat
  cases c : A.testBit f.toNat with
  | true =>
    rw [if_pos c] at hb
    rw [yDu,a81]
    simp (maxSteps := 30000000) (disch := first | assumption | omega | (simp only [List.length_cons,List.length_nil,List.length_append,List.length_set,List.length_replicate,List.length_map,List.length_range,List.length_take,List.length_drop,List.all_cons,List.all_nil,AV.isCell,Bool.and_self,Bool.and_true,xAh,xAb,xAe,xAa,List.length_map] <;> omega) | rfl | decide) only [List.cons_append,List.nil_append,xAT,List.length_cons,List.length_nil,Nat.zero_add,Nat.reduceAdd,Nat.reduceSub,xCF,xAq,xAf,xAc,xAk,xAz,opv,xAr,List.set_cons_succ,List.set_cons_zero,xAi,xAg,xAj,xAd,xAH,List.getD_cons_succ,List.getD_cons_zero,xA1,b4,xAu,List.drop_zero,List.take_succ_cons,List.take_nil,xAM,xAm,bb,xAW,xBG,Int.toNat_natCast,Nat.mul_one,bl,gl,xAB,xDW,hs,xC2,hb,xBy,Int.reduceEq,decide_false,Bool.not_false,xA0,xAP,xAV,xBk,xAD]
  | false =>
    rw [if_neg (by rw [c]; simp)] at hb
    rw [yDu,a81]
    simp (maxSteps := 30000000) (disch := first | assumption | omega | (simp only [List.length_cons,List.length_nil,List.length_append,List.length_set,List.length_replicate,List.length_map,List.length_range,List.length_take,List.length_drop,List.all_cons,List.all_nil,AV.isCell,Bool.and_self,Bool.and_true,xAh,xAb,xAe,xAa,List.length_map] <;> omega) | rfl | decide) only [List.cons_append,List.nil_append,xAT,List.length_cons,List.length_nil,Nat.zero_add,Nat.reduceAdd,Nat.reduceSub,xCF,xAq,xAf,xAc,xAk,xAz,opv,xAr,List.set_cons_succ,List.set_cons_zero,xAi,xAg,xAj,xAd,xAH,List.getD_cons_succ,List.getD_cons_zero,xA1,b4,xAu,List.drop_zero,List.take_succ_cons,List.take_nil,xAM,xAm,bb,xAW,xBG,Int.toNat_natCast,Nat.mul_one,bl,gl,xAB,xDW,hs,xC2,hb,xBy,decide_true,Bool.not_true,xA0,xAP,xAV,xBk,xAD]

set_option maxHeartbeats 1000000 in
theorem xQb {o : List Nat} {lb b : Nat} {G : xAv} {l : Nat} {z : Bool} {fi : List Int} {s4 : AV} (hfl : fi.length < 1099511627776) (hf : ∀ q ∈ fi,0 ≤ q ∧ q < 64) (ho : ∀ w ∈ o,w < 18446744073709551616) (hl : l < o.length) (b4 : G[4]? = some (.cells false false [.own false lb 0 o.length 1])) (bl : G[lb]? = some (.cells false false (w64 o))) (bb : G[b]? = some (.cells false false [.int .i64 (l : Nat)])) :
    ∀ d i,i + d = fi.length → ∃ e s s8,L.loop xIy xOK ⟨xIz (iw z fi) (.func 81 [.ptr 4 0,.ptr b 0]) s4 (.int .i64 (fi.length : Nat)) (.int .i64 (i : Nat)),G⟩ = some (e,⟨xIz (iw z fi) (.func 81 [.ptr 4 0,.ptr b 0]) s (.int .i64 (fi.length : Nat)) s8,G⟩) ∧
      ((e = .ret ∧ (∃ j : Nat,s = .int .i64 (j : Nat)) ∧ (fi.drop i).any (fun f => (o.getD l 0).testBit f.toNat) = true) ∨ (e = .exit 0 ∧ (fi.drop i).any (fun f => (o.getD l 0).testBit f.toNat) = false)) := by
  intro d
  induction d with
  | zero =>
    intro i h
    obtain rfl : i = fi.length := by omega
    refine ⟨.exit 0,s4,.int .i64 (fi.length : Nat),?_,.inr ⟨rfl,by simp⟩⟩
    rw [xNp]
    simp (maxSteps := 30000000) (disch := first | assumption | omega | (simp only [List.length_cons,List.length_nil,List.length_append,List.length_set,List.length_replicate,List.length_map,List.length_range,List.length_take,List.length_drop,List.all_cons,List.all_nil,AV.isCell,Bool.and_self,Bool.and_true,xAh,xAb,xAe,xAa,List.length_map] <;> omega) | rfl | decide) only [xIx,xAq,xAf,xAc,xAk,xAB,opv,List.getD_cons_succ,List.getD_cons_zero,xAw,Int.lt_irrefl,decide_false,xAm,xAr,List.set_cons_succ,List.set_cons_zero,xAi,xAg,xAj,xAd,xAp,xAl,Bool.false_eq_true,↓reduceIte,xBm,xA6,xAX,xIA]
  | succ d ih =>
    intro i h
    have hlt : (i : Int) < (fi.length : Nat) := by omega
    have hq := hf (fi.getD i 0) (xCN (by omega))
    have hc := yAq ho hl hq.1 hq.2 b4 bl bb
    have g1 : List.take 1 (List.drop i (ints fi)) = [.int .i64 (fi.getD i 0)] := xDv _ _ (by omega)
    rw [xDU (by omega : i < fi.length),List.any_cons]
    cases c : (o.getD l 0).testBit (fi.getD i 0).toNat with
    | true =>
      rw [c] at hc
      refine ⟨.ret,.int .i64 (i : Nat),.int .i64 (i : Nat),?_,.inl ⟨rfl,⟨i,rfl⟩,rfl⟩⟩
      rw [xNp]
      simp (maxSteps := 30000000) (disch := first | assumption | omega | (simp only [List.length_cons,List.length_nil,List.length_append,List.length_set,List.length_replicate,List.length_map,List.length_range,List.length_take,List.length_drop,List.all_cons,List.all_nil,AV.isCell,Bool.and_self,Bool.and_true,xAh,xAb,xAe,xAa,List.length_map] <;> omega) | rfl | decide) only [xIx,xAq,xAf,xAc,xAk,xAB,opv,List.getD_cons_succ,List.getD_cons_zero,xAw,hlt,decide_true,xAm,xAr,List.set_cons_succ,List.set_cons_zero,xAi,xAg,xAj,xAd,xAp,xAl,↓reduceIte,xAx,xAs,xAz,xAW,xAY,Int.toNat_natCast,Nat.mul_one,xAH,xBn,xB1,xBR,xCu,xBW,Nat.add_zero,xAM,xCd,List.map_cons,List.map_nil,hc,xA0,xA8,xBb,xBK,xIA]
    | false =>
      rw [c] at hc
      obtain ⟨e,s,s8,q1,q2⟩ := ih (i + 1) (by omega)
      refine ⟨e,s,s8,?_,by simpa using q2⟩
      rw [xNp]
      simp (maxSteps := 30000000) (disch := first | assumption | omega | (simp only [List.length_cons,List.length_nil,List.length_append,List.length_set,List.length_replicate,List.length_map,List.length_range,List.length_take,List.length_drop,List.all_cons,List.all_nil,AV.isCell,Bool.and_self,Bool.and_true,xAh,xAb,xAe,xAa,List.length_map] <;> omega) | rfl | decide) only [xIx,xAq,xAf,xAc,xAk,xAB,opv,List.getD_cons_succ,List.getD_cons_zero,xAw,hlt,decide_true,xAm,xAr,List.set_cons_succ,List.set_cons_zero,xAi,xAg,xAj,xAd,xAp,xAl,↓reduceIte,xAx,xAs,xAz,xAW,xAY,Int.toNat_natCast,Nat.mul_one,xAH,xBn,xB1,xBR,xCu,xBW,Nat.add_zero,xAM,xCd,List.map_cons,List.map_nil,hc,Bool.false_eq_true,xAt,xBf,xB6,xCQ,xAy,xIA,q1]

theorem yAr {o : List Nat} {lb b : Nat} {G : xAv} {l : Nat} {z : Bool} {fi : List Int} (hfl : fi.length < 1099511627776) (hf : ∀ q ∈ fi,0 ≤ q ∧ q < 64) (ho : ∀ w ∈ o,w < 18446744073709551616) (hl : l < o.length) (b4 : G[4]? = some (.cells false false [.own false lb 0 o.length 1])) (bl : G[lb]? = some (.cells false false (w64 o))) (bb : G[b]? = some (.cells false false [.int .i64 (l : Nat)])) :
    L.icall (.func 80 []) [iw z fi,.func 81 [.ptr 4 0,.ptr b 0]] G = some (.bool (fi.any (fun f => (o.getD l 0).testBit f.toNat)),G) := by
  obtain ⟨e,s,s8,q1,q2⟩ := xQb (z := z) (s4 := .int .i64 0) hfl hf ho hl b4 bl bb fi.length 0 (by omega)
  simp only [Int.natCast_zero,List.drop_zero] at q1 q2
  rcases q2 with ⟨rfl,⟨j,rfl⟩,hc⟩ | ⟨rfl,hc⟩
  · rw [hc]
    have hi : L.icall (.func 109 []) [iw z fi,.func 81 [.ptr 4 0,.ptr b 0]] G = some (.int .i64 (j : Nat),G) := by
      rw [xYV,xYU]
      simp (maxSteps := 30000000) (disch := first | assumption | omega | (simp only [List.length_cons,List.length_nil,List.length_append,List.length_set,List.length_replicate,List.length_map,List.length_range,List.length_take,List.length_drop,List.all_cons,List.all_nil,AV.isCell,Bool.and_self,Bool.and_true,xAh,xAb,xAe,xAa,List.length_map] <;> omega) | rfl | decide) only [Int.reduceNeg,List.append_nil,xAT,List.length_cons,List.length_nil,Nat.zero_add,Nat.reduceAdd,Nat.reduceSub,xCF,List.cons_append,List.nil_append,xAq,xAf,xAc,xAk,xAz,opv,xAr,List.set_cons_succ,List.set_cons_zero,xAi,xAg,xAj,xAd,List.getD_cons_zero,xA3,List.getD_cons_succ,xA4,xAm,xAs,xA7,xIA,q1,xA8,xBb,xAP,xAV,xBk,xAD]
    have hj : (0 : Int) ≤ (j : Nat) := by omega
    rw [yDt,a80]
    simp (maxSteps := 30000000) (disch := first | assumption | omega | (simp only [List.length_cons,List.length_nil,List.length_append,List.length_set,List.length_replicate,List.length_map,List.length_range,List.length_take,List.length_drop,List.all_cons,List.all_nil,AV.isCell,Bool.and_self,Bool.and_true,xAh,xAb,xAe,xAa,List.length_map] <;> omega) | rfl | decide) only [List.append_nil,xAT,List.length_cons,List.length_nil,Nat.zero_add,Nat.reduceAdd,Nat.reduceSub,xCF,List.cons_append,List.nil_append,xAq,xAf,xAc,xAk,xAz,opv,xAr,List.set_cons_succ,List.set_cons_zero,xAi,xAg,xAj,xAd,List.getD_cons_zero,List.getD_cons_succ,xCd,List.map_cons,List.map_nil,hi,xAB,xCj,hj,decide_true,xAm,xA0,xAP,xAV,xBk,xAD]
  · rw [hc]
    have hi : L.icall (.func 109 []) [iw z fi,.func 81 [.ptr 4 0,.ptr b 0]] G = some (.int .i64 (-1),G) := by
      rw [xYV,xYU]
      simp (maxSteps := 30000000) (disch := first | assumption | omega | (simp only [List.length_cons,List.length_nil,List.length_append,List.length_set,List.length_replicate,List.length_map,List.length_range,List.length_take,List.length_drop,List.all_cons,List.all_nil,AV.isCell,Bool.and_self,Bool.and_true,xAh,xAb,xAe,xAa,List.length_map] <;> omega) | rfl | decide) only [Int.reduceNeg,List.append_nil,xAT,List.length_cons,List.length_nil,Nat.zero_add,Nat.reduceAdd,Nat.reduceSub,xCF,List.cons_append,List.nil_append,xAq,xAf,xAc,xAk,xAz,opv,xAr,List.set_cons_succ,List.set_cons_zero,xAi,xAg,xAj,xAd,List.getD_cons_zero,xA3,List.getD_cons_succ,xA4,xAm,xAs,xA7,xIA,q1,xAR,↓reduceIte,xA0,xAP,xAV,xBk,xAD]
    rw [yDt,a80]
    simp (maxSteps := 30000000) (disch := first | assumption | omega | (simp only [List.length_cons,List.length_nil,List.length_append,List.length_set,List.length_replicate,List.length_map,List.length_range,List.length_take,List.length_drop,List.all_cons,List.all_nil,AV.isCell,Bool.and_self,Bool.and_true,xAh,xAb,xAe,xAa,List.length_map] <;> omega) | rfl | decide) only [List.append_nil,xAT,List.length_cons,List.length_nil,Nat.zero_add,Nat.reduceAdd,Nat.reduceSub,xCF,List.cons_append,List.nil_append,xAq,xAf,xAc,xAk,xAz,opv,xAr,List.set_cons_succ,List.set_cons_zero,xAi,xAg,xAj,xAd,List.getD_cons_zero,List.getD_cons_succ,xCd,List.map_cons,List.map_nil,hi,Int.reduceNeg,xAB,xCj,Int.reduceLE,decide_false,xAm,xA0,xAP,xAV,xBk,xAD]

def xNn (n : Aut) (o : List Nat) (l : Nat) : Bool := n.fi.any fun f => (o.getD l 0).testBit f.toNat

theorem yAs {n : Aut} {bu : Nat} {o : List Nat} {lb : Nat} {G : xAv} {l : Nat} (hfl : n.fi.length < 1099511627776) (hf : ∀ q ∈ n.fi,0 ≤ q ∧ q < 64) (hI : DetI n bu o lb G) (hl : l < o.length) :
    ∃ T : xAv,L.icall (.func 79 [.ptr 0 0,.ptr 4 0]) [.int .i64 (l : Nat)] G = some (.bool (xNn n o l),G ++ T) := by
  have hI2 := hI.app [.cells false false [.int .i64 (l : Nat)]]
  have h := yAr (z := n.z2) (b := G.length) hfl hf hI2.bd hl hI2.b4 hI2.bl (xCy _ _)
  have b0 := hI2.b0
  refine ⟨[.cells false false [.int .i64 (l : Nat)]],?_⟩
  unfold xNn
  rw [yEA,a79]
  simp (maxSteps := 30000000) (disch := first | assumption | omega | (simp only [List.length_cons,List.length_nil,List.length_append,List.length_set,List.length_replicate,List.length_map,List.length_range,List.length_take,List.length_drop,List.all_cons,List.all_nil,AV.isCell,Bool.and_self,Bool.and_true,xAh,xAb,xAe,xAa,List.length_map] <;> omega) | rfl | decide) only [List.cons_append,List.nil_append,xAT,List.length_cons,List.length_nil,Nat.zero_add,Nat.reduceAdd,Nat.reduceSub,xCF,xAq,xAf,xAc,xAk,xBv,AV.cells,opv,List.getD_cons_zero,List.all_cons,AV.isCell,List.all_nil,Bool.and_self,↓reduceIte,xAr,List.set_cons_succ,List.set_cons_zero,xAi,xAz,xAg,xAj,xAd,xAQ,List.getD_cons_succ,xAC,xAm,xAH,xA1,b0,xAu,List.drop_succ_cons,List.drop_zero,List.take_succ_cons,List.take_zero,xAM,xIF,List.map_cons,List.map_nil,xCd,h,xA0,xAP,xAV,xBk,xAD]
end Go.Abs.Det

/- Determinize: the list of words is closed. Plain facts (printed by C5gen.py). -/
namespace Go.Abs.Det
open Go Go.Abs
set_option linter.unusedSimpArgs false
set_option linter.unusedVariables false

abbrev aft (n : Aut) (a b x : Nat) : Nat := toM a b x 0 n.rl
section
variable {A : Aut}
abbrev xHx : List Nat → Bool := fun _ => false
theorem xJw (o : List Nat) (l r x : Nat) : o <+: xCS A o l r x := by
  unfold xCS
  split
  · exact List.prefix_rfl
  · exact List.prefix_append _ _
theorem xX9 (o : List Nat) (l r x : Nat) : aft A (o.getD l 0) (o.getD r 0) x ∈ xCS A o l r x := by
  show xH9 A o l r x ∈ _
  unfold xCS
  split
  · assumption
  · simp
theorem xF3 {o o' : List Nat} (h : o <+: o') {i : Nat} (hi : i < o.length) : o'.getD i 0 = o.getD i 0 := by
  obtain ⟨t,rfl⟩ := h
  simp only [List.getD_eq_getElem?_getD]
  rw [List.getElem?_append_left hi]
theorem xEw {o o' : List Nat} (h : o <+: o') : o.length ≤ o'.length := h.length_le
theorem xPr {o o' : List Nat} (h : o <+: o') {a : Nat} (ha : a ∈ o) : a ∈ o' := h.subset ha

theorem xS2 (l r x e : Nat) (o : List Nat) : goX xHx (xCS A) l r x (e + 1) o = goX xHx (xCS A) l r (x + 1) e (xCS A o l r x) := rfl
theorem xJx (l r : Nat) : ∀ e x o,o <+: goX xHx (xCS A) l r x e o
  | 0,_,o => List.prefix_rfl
  | e + 1,x,o => by rw [xS2]; exact (xJw o l r x).trans (xJx l r e (x + 1) _)
theorem xVU (l r : Nat) : ∀ e x o,l < o.length → r < o.length → ∀ y,x ≤ y → y < x + e → aft A (o.getD l 0) (o.getD r 0) y ∈ goX xHx (xCS A) l r x e o
  | 0,x,o,_,_,y,h1,h2 => by omega
  | e + 1,x,o,hl,hr,y,h1,h2 => by
    rw [xS2]
    have hp := xJw (A := A) o l r x
    rcases Nat.eq_or_lt_of_le h1 with q | q
    · subst q
      exact xPr (xJx l r e (x + 1) _) (xX9 o l r x)
    · have := xVU l r e (x + 1) (xCS A o l r x) (by have := xEw hp; omega) (by have := xEw hp; omega) y q (by omega)
      rwa [xF3 hp hl,xF3 hp hr] at this

def DoneW (A : Aut) (o : List Nat) (i j : Nat) : Prop := ∀ x,x < two A.vars → aft A (o.getD i 0) (o.getD j 0) x ∈ o
theorem DoneW.pre {o o' : List Nat} {i j : Nat} (h : DoneW A o i j) (hp : o <+: o') (hi : i < o.length) (hj : j < o.length) : DoneW A o' i j := fun x hx => by
  rw [xF3 hp hi,xF3 hp hj]; exact xPr hp (h x hx)
theorem xS3 {l r : Nat} {o : List Nat} (hl : l < o.length) (hr : r < o.length) : DoneW A (goX xHx (xCS A) l r 0 (two A.vars) o) l r := fun x hx => by
  have hp := xJx (A := A) l r (two A.vars) 0 o
  rw [xF3 hp hl,xF3 hp hr]
  exact xVU l r _ 0 o hl hr x (Nat.zero_le _) (by omega)
theorem yAt (n j k : Nat) (o : List Nat) : goP xHx (xCS A) n j k o = goX xHx (xCS A) k j 0 n (goX xHx (xCS A) j k 0 n o) := rfl
theorem xVV (n j k : Nat) (o : List Nat) : o <+: goP xHx (xCS A) n j k o := by
  rw [yAt]; exact (xJx j k n 0 o).trans (xJx k j n 0 _)
theorem xYa {j k : Nat} {o : List Nat} (hj : j < o.length) (hk : k < o.length) : DoneW A (goP xHx (xCS A) (two A.vars) j k o) j k ∧ DoneW A (goP xHx (xCS A) (two A.vars) j k o) k j := by
  rw [yAt]
  have hp := xEw (xJx (A := A) j k (two A.vars) 0 o)
  exact ⟨(xS3 hj hk).pre (xJx k j _ 0 _) (by omega) (by omega),xS3 (by omega) (by omega)⟩
theorem xS4 (n k j e : Nat) (o : List Nat) : goJ xHx (xCS A) n k j (e + 1) o = goJ xHx (xCS A) n k (j + 1) e (goP xHx (xCS A) n j k o) := rfl
theorem xNo (n k : Nat) : ∀ e j o,o <+: goJ xHx (xCS A) n k j e o
  | 0,_,o => List.prefix_rfl
  | e + 1,j,o => by rw [xS4]; exact (xVV n j k o).trans (xNo n k e (j + 1) _)
theorem xOb {k : Nat} : ∀ e j o,j + e = k + 1 → k < o.length → ∀ i,j ≤ i → i ≤ k → DoneW A (goJ xHx (xCS A) (two A.vars) k j e o) i k ∧ DoneW A (goJ xHx (xCS A) (two A.vars) k j e o) k i
  | 0,j,o,h,hk,i,h1,h2 => by omega
  | e + 1,j,o,h,hk,i,h1,h2 => by
    rw [xS4]
    have hp := xEw (xVV (A := A) (two A.vars) j k o)
    rcases Nat.eq_or_lt_of_le h1 with q | q
    · subst q
      obtain ⟨d1,d2⟩ := xYa (A := A) (show j < o.length by omega) hk
      exact ⟨d1.pre (xNo _ k e (j + 1) _) (by omega) (by omega),d2.pre (xNo _ k e (j + 1) _) (by omega) (by omega)⟩
    · exact xOb e (j + 1) _ (by omega) (by omega) i q h2
theorem xVW (n : Nat) : ∀ e k o,o <+: goK List.length xHx (xCS A) n k e o
  | 0,_,o => List.prefix_rfl
  | e + 1,k,o => by
    unfold goK
    split
    · exact (xNo n k (k + 1) 0 o).trans (xVW n e (k + 1) _)
    · exact List.prefix_rfl
theorem xS5 {N : Nat} : ∀ e k o,k + e = N → (goK List.length xHx (xCS A) (two A.vars) k e o).length ≤ N → (∀ i j,i < k → j < k → i < o.length → j < o.length → DoneW A o i j) →
    ∀ i j,i < (goK List.length xHx (xCS A) (two A.vars) k e o).length → j < (goK List.length xHx (xCS A) (two A.vars) k e o).length → DoneW A (goK List.length xHx (xCS A) (two A.vars) k e o) i j
  | 0,k,o,h,hN,hd,i,j,hi,hj => by
    have hN' : o.length ≤ N := hN
    have hi' : i < o.length := hi
    have hj' : j < o.length := hj
    exact hd i j (by omega) (by omega) hi' hj'
  | e + 1,k,o,h,hN,hd,i,j,hi,hj => by
    by_cases c : k < o.length
    · have he : goK List.length xHx (xCS A) (two A.vars) k (e + 1) o = goK List.length xHx (xCS A) (two A.vars) (k + 1) e (goJ xHx (xCS A) (two A.vars) k 0 (k + 1) o) := by
        show (if k < o.length then _ else _) = _
        rw [if_pos c]; rfl
      rw [he] at hN hi hj ⊢
      have hp := xNo (A := A) (two A.vars) k (k + 1) 0 o
      refine xS5 e (k + 1) _ (by omega) hN (fun i j hi hj hi' hj' => ?_) i j hi hj
      by_cases ci : i = k
      · subst ci
        exact (xOb (i + 1) 0 o (by omega) c j (Nat.zero_le _) (by omega)).2
      · by_cases cj : j = k
        · subst cj
          exact (xOb (j + 1) 0 o (by omega) c i (Nat.zero_le _) (by omega)).1
        · exact (hd i j (by omega) (by omega) (by omega) (by omega)).pre hp (by omega) (by omega)
    · have he : goK List.length xHx (xCS A) (two A.vars) k (e + 1) o = o := by
        show (if k < o.length then _ else _) = _
        rw [if_neg c]
      rw [he] at hi hj ⊢
      exact hd i j (by omega) (by omega) hi hj
end
section
variable {A : Aut} {P : List Nat → Prop}
end


section
variable {σ : Type} {size : σ → Nat} {bad : σ → Bool} {stp : σ → Nat → Nat → Nat → σ}
abbrev xVX : σ → Bool := fun _ => false
theorem xS6 (l r : Nat) : ∀ e x s,bad (goX bad stp l r x e s) = false → goX bad stp l r x e s = goX xVX stp l r x e s
  | 0,_,_,_ => rfl
  | e + 1,x,s,h => by
    unfold goX at h ⊢
    simp only [xVX,Bool.false_eq_true,if_false]
    split
    · rename_i c
      rw [if_pos c] at h
      rw [c] at h; cases h
    · rename_i c
      rw [if_neg c] at h
      exact xS6 l r e (x + 1) _ h
theorem yAu (m j k : Nat) (s : σ) (h : bad (goP bad stp m j k s) = false) : goP bad stp m j k s = goP xVX stp m j k s := by
  unfold goP at h ⊢
  simp only [xVX,Bool.false_eq_true,if_false]
  split
  · rename_i c
    rw [if_pos c] at h
    rw [c] at h; cases h
  · rename_i c
    rw [if_neg c] at h
    rw [xS6 k j m 0 _ h,xS6 j k m 0 s (by simpa using c)]
theorem xVY (m k : Nat) : ∀ e j s,bad (goJ bad stp m k j e s) = false → goJ bad stp m k j e s = goJ xVX stp m k j e s
  | 0,_,_,_ => rfl
  | e + 1,j,s,h => by
    unfold goJ at h ⊢
    simp only [xVX,Bool.false_eq_true,if_false]
    split
    · rename_i c
      rw [if_pos c] at h
      rw [c] at h; cases h
    · rename_i c
      rw [if_neg c] at h
      rw [xVY m k e (j + 1) _ h,yAu m j k s (by simpa using c)]
theorem xVZ (m : Nat) : ∀ e k s,bad (goK size bad stp m k e s) = false → goK size bad stp m k e s = goK size xVX stp m k e s
  | 0,_,_,_ => rfl
  | e + 1,k,s,h => by
    unfold goK at h ⊢
    simp only [xVX,Bool.false_eq_true,if_false]
    by_cases c0 : k < size s
    · rw [if_pos c0] at h ⊢
      rw [if_pos c0]
      split
      · rename_i c
        rw [if_pos c] at h
        rw [c] at h; cases h
      · rename_i c
        rw [if_neg c] at h
        rw [xVZ m e (k + 1) _ h,xVY m k (k + 1) 0 s (by simpa using c)]
    · rw [if_neg c0,if_neg c0]
end

theorem xPs {n : Aut} {bu : Nat} (h : (xFg n bu).length ≤ bu) : xFg n bu = goK List.length xHx (xCS n) (two n.vars) 0 bu [xDA 0 n.st] :=
  xVZ (size := List.length) (bad := fun o => decide (bu < o.length)) (stp := xCS n) _ _ _ _ (by
    show decide (bu < (xFg n bu).length) = false
    simp [h])
theorem xJy {n : Aut} {bu : Nat} (h : (xFg n bu).length ≤ bu) {i j x : Nat} (hi : i < (xFg n bu).length) (hj : j < (xFg n bu).length) (hx : x < two n.vars) : aft n ((xFg n bu).getD i 0) ((xFg n bu).getD j 0) x ∈ xFg n bu := by
  have e := xPs h
  rw [e] at h hi hj ⊢
  exact xS5 (N := bu) bu 0 [xDA 0 n.st] (by omega) h (fun i j h => by omega) i j hi hj x hx
theorem xUV {n : Aut} {bu : Nat} (h : (xFg n bu).length ≤ bu) : [xDA 0 n.st] <+: xFg n bu := by
  rw [xPs h]; exact xVW _ _ 0 _
theorem xK5 {n : Aut} {bu : Nat} (h : (xFg n bu).length ≤ bu) : 0 < (xFg n bu).length := by have := xEw (xUV h); simp at this; omega
def xFJ (n : Aut) (o : List Nat) (l r x : Nat) : Int := (xQn o (aft n (o.getD l 0) (o.getD r 0) x) : Nat)
end Go.Abs.Det

/- Determinize: explored; its errors. -/
namespace Go.Abs.Det
open Go Go.Abs
set_option linter.unusedSimpArgs false
set_option linter.unusedVariables false

def xYb (n : Aut) (o : List Nat) : Da := ⟨n.vars,0,xD0 n.vars (xFJ n o) o.length o.length,xG7 (xNn n o) o.length⟩
def xFK (o : List Nat) : AV := .sl false o.length (o.map xCJ)

abbrev zD : AV := .agg [.int .i64 0,.int .i64 0,.sl true 0 [],.sl true 0 []]

theorem DetI.keep {n : Aut} {bu : Nat} {o : List Nat} {lb : Nat} {G G' : xAv} (h : DetI n bu o lb G) (hk : ∀ b,b < G.length → G'[b]? = G[b]?) : DetI n bu o lb G' := by
  have l1 := (List.getElem?_eq_some_iff.1 h.bl).1
  have l2 := (List.getElem?_eq_some_iff.1 h.b8).1
  exact ⟨h.nd,h.bd,(hk 0 (by omega)).trans h.b0,(hk 1 (by omega)).trans h.b1,(hk 2 (by omega)).trans h.b2,(hk 5 (by omega)).trans h.b5,(hk 6 (by omega)).trans h.b6,(hk 7 (by omega)).trans h.b7,(hk 8 (by omega)).trans h.b8,(hk 4 (by omega)).trans h.b4,(hk lb l1).trans h.bl,h.lo⟩

theorem xGx {n : Aut} (hT : TyA n) (hV : Valid n) {bu : Nat} (h1 : 1 ≤ bu) (h64 : bu ≤ 64) :
    ∃ G lb,L.icall (.func 75 []) [.int .i64 n.vars,.func 76 [.ptr 7 0,.ptr 6 0,.ptr 4 0,.ptr 1 0,.ptr 8 0]]
      [.cells false false n.cells,.cells false false [.int .i64 (bu : Nat)],.cells false false [.int .i64 0,.int .i64 0,.sl true 0 [],.sl true 0 []],.cells false false [.int .u64 (xDA 0 n.st : Nat)],.cells false false [.own false 3 0 1 1],.mp [(.int .u64 (xDA 0 n.st : Nat),.int .i64 0)],.cells false false [.mp 5],.cells false false [.func 74 [.ptr 0 0,.ptr 4 0]],.cells false false [.bool false]] = some (.tup [],G) ∧
      DetI n bu (xFg n bu) lb G := by
  have hb := hV.ok hT
  have hI0 : DetI n bu [xDA 0 n.st] 3 [.cells false false n.cells,.cells false false [.int .i64 (bu : Nat)],.cells false false [.int .i64 0,.int .i64 0,.sl true 0 [],.sl true 0 []],.cells false false [.int .u64 (xDA 0 n.st : Nat)],.cells false false [.own false 3 0 1 1],.mp [(.int .u64 (xDA 0 n.st : Nat),.int .i64 0)],.cells false false [.mp 5],.cells false false [.func 74 [.ptr 0 0,.ptr 4 0]],.cells false false [.bool false]] :=
    ⟨by simp,fun w hw => by rw [List.mem_singleton] at hw; rw [hw]; exact xKX _ _ (by omega) hV.sts,rfl,rfl,rfl,rfl,rfl,rfl,by simp [show ¬ bu < 1 by omega],rfl,rfl,.inl rfl⟩
  obtain ⟨G,lb,e1,e2⟩ := xSJ (xX8 hV hb h64) hI0 (by simp; omega) rfl
  exact ⟨G,lb,e1,e2⟩

section
variable {n : Aut}
end
end Go.Abs.Det

/- Determinize,its results the caller's own. -/
namespace Go.Abs.Det
open Go Go.Abs
set_option linter.unusedSimpArgs false
set_option linter.unusedVariables false

theorem xYc {w : Nat} (hw : w < 18446744073709551616) : (lsW w 64 = [] ∧ xD2 L 77 [.int .u64 (w : Nat)] = some (.sl true 0 [],[])) ∨ (lsW w 64 ≠ [] ∧ xD2 L 77 [.int .u64 (w : Nat)] = some (.own false 0 0 (lsW w 64).length 1,[.cells false false (ints (lsW w 64))])) := by
  obtain ⟨v',H',q1,q2⟩ := xS1 hw 64 0 (.sl true 0 []) [] (by omega) (.nil _ _)
  simp only [Int.natCast_zero] at q1
  have hi : L.icall (.func 77 []) [.int .u64 (w : Nat)] [] = some (v',H') := by
    rw [yEy,a77]
    simp (maxSteps := 30000000) (disch := first | assumption | omega | (simp only [List.length_cons,List.length_nil,List.length_append,List.length_set,List.length_replicate,List.length_map,List.length_range,List.length_take,List.length_drop,List.all_cons,List.all_nil,AV.isCell,Bool.and_self,Bool.and_true,xAh,xAb,xAe,xAa,List.length_map,xAo] <;> omega) | rfl | decide) only [List.append_nil,xAT,List.length_cons,List.length_nil,Nat.zero_add,Nat.reduceSub,xCF,List.cons_append,List.nil_append,xAq,xAf,xAc,xAk,xAz,opv,xAr,List.set_cons_succ,List.set_cons_zero,xAi,xAg,xAj,xAd,xAs,xA7,xOG,q1,xAR,↓reduceIte,List.getD_cons_succ,List.getD_cons_zero,xA0,xAP,xAV,xBk,xAD]
  rcases q2 with ⟨h0,rfl⟩ | ⟨id,rfl,hid,_,h0⟩
  · left
    have he : lsW w 64 = [] := by unfold ints at h0; exact List.map_eq_nil_iff.1 h0
    refine ⟨he,?_⟩
    rw [xGL,hi]
    rfl
  · right
    refine ⟨fun e => h0 (by rw [e]; rfl),?_⟩
    rw [xGL,hi,xGo,xGp]
    simp only [xFC,List.findIdx?_nil,hid,xHd,if_true,Option.map_some,xAa,List.length_nil,List.nil_append,List.map_cons,List.map_nil]

def GW (B : Nat) (G : xAv) (v : AV) (ws : List Nat) : Prop := Grow 1 G B v (ws.map xCJ) ∧ TV1 G v
theorem GW.nil (B : Nat) (G : xAv) : GW B G (.sl true 0 []) [] := ⟨.inl ⟨rfl,rfl⟩,.inl rfl⟩
theorem xS7 {B : Nat} {G G2 : xAv} {v c : AV} {ws : List Nat} {w : Nat} (h : GW B G v ws) (hB : B ≤ G.length) (hk : Kp G.length G G2) (hc : Fz 1 G2 G.length c (xCJ w)) (tc : TV0 G2 c) (hsz : ws.length ≤ 100) :
    ∃ v' G3,xQf false 1 24 G2 v (some (1,[c])) = some (v',G3) ∧ GW B G3 v' (ws ++ [w]) ∧ Kp B G G3 := by
  obtain ⟨hG,hT⟩ := h
  have hl2 := hk.1
  have hcw : c.isCell = true := by rcases tc with rfl | ⟨id,l,rfl,_⟩ <;> rfl
  rcases hG with ⟨h0,rfl⟩ | ⟨id,cs,rfl,h2,h3,h4,h5⟩
  · have hw0 : ws = [] := List.map_eq_nil_iff.1 h0
    subst hw0
    have hext : ∀ b,b < G2.length → (G2 ++ [Blk.cells false false [c]])[b]? = G2[b]? := fun b hb => List.getElem?_append_left hb
    refine ⟨.own false G2.length 0 1 1,G2 ++ [.cells false false [c]],?_,⟨Grow.first (hc.low (by omega)) (by omega),.inr ⟨G2.length,[c],rfl,by simp,by simp,fun a ha => ?_⟩⟩,⟨by simp; omega,fun b hb => by rw [hext b (by omega),hk.2 b (by omega)]⟩⟩
    · rw [xEq (by omega) (by omega)]; rfl
    · rw [List.mem_singleton] at ha
      subst ha
      exact tc.frame (d := 0) fun b hb => hext b ((hc 1 (Nat.le_refl _)).2 b hb).2
  · have hidl := (List.getElem?_eq_some_iff.1 h2).1
    have hlen : cs.length = ws.length := by rw [h4,List.length_map]
    have h2' : G2[id]? = some (.cells false false cs) := (hk.2 id hidl).trans h2
    have h5' : ∀ (i : Nat) (a t : AV),cs[i]? = some a → (ws.map xCJ)[i]? = some t → Fz 1 G2 B a t ∧ ∀ d,1 ≤ d → id ∉ bor d G2 a := fun i a t ha ht => by
      obtain ⟨g1,g2⟩ := h5 i a t ha ht
      have hfr : ∀ d,1 ≤ d → ∀ b ∈ bor d G a,G2[b]? = G[b]? := fun d hd b hb => hk.2 b ((g1 d hd).2 b hb).2
      exact ⟨g1.frame hl2 hfr,fun d hd => by rw [(xDu d a (hfr d hd)).2]; exact g2 d hd⟩
    have hnid : ∀ d,1 ≤ d → id ∉ bor d G2 c := fun d hd hm => by have := (hc d hd).2 _ hm; omega
    have hg := Grow.push (B := B) h2' h3 h4 h5' (hc.low (by omega)) hnid
    have hext : ∀ b,b ≠ id → b < G2.length → (G2.set id .dead ++ [Blk.cells false false (cs ++ [c])])[b]? = G2[b]? := fun b hb hb2 => by
      rw [List.getElem?_append_left (by simpa using hb2),List.getElem?_set_ne (Ne.symm hb)]
    rw [List.length_map] at hg
    refine ⟨.own false G2.length 0 (ws.length + 1) 1,G2.set id .dead ++ [.cells false false (cs ++ [c])],?_,⟨by rw [List.map_append]; exact hg,.inr ⟨G2.length,cs ++ [c],by rw [List.length_append,hlen]; rfl,by rw [List.getElem?_append_right (by simp)]; simp,by rw [List.length_append,hlen]; simp; omega,fun a ha => ?_⟩⟩,⟨by simp; omega,fun b hb => ?_⟩⟩
    · rw [xFN,h2']
      show (if _ then _ else _) = _
      rw [List.length_map,if_pos ⟨by omega,by show _ ≤ 140737488355328; omega,by show _ ≤ 140737488355328; omega⟩]
      rw [← hlen,Nat.mul_one,List.take_length]
      rfl
    · rcases List.mem_append.1 ha with ha | ha
      · obtain ⟨i,hi,rfl⟩ := List.getElem_of_mem ha
        have hts : i < (ws.map xCJ).length := by rw [List.length_map]; omega
        obtain ⟨g1,g2⟩ := h5 i cs[i] _ (List.getElem?_eq_getElem hi) (List.getElem?_eq_getElem hts)
        have ht0 : TV0 G cs[i] := by
          rcases hT with e | ⟨id',cs',e,hg',_,hc'⟩
          · cases e
          · simp only [AV.own.injEq] at e
            obtain ⟨_,rfl,_⟩ := e
            rw [h2] at hg'
            have : cs = cs' := by injection hg' with q; injection q
            subst this
            exact hc' _ (List.getElem_mem hi)
        refine ht0.frame (d := 0) fun b hb => ?_
        have hbl := ((g1 1 (Nat.le_refl _)).2 b hb).2
        rw [hext b (fun e => g2 1 (Nat.le_refl _) (e ▸ hb)) (by omega),hk.2 b hbl]
      · rw [List.mem_singleton] at ha
        subst ha
        exact tc.frame (d := 0) fun b hb => hext b (fun e => hnid 1 (Nat.le_refl _) (e ▸ hb)) ((hc 1 (Nat.le_refl _)).2 b hb).2
    · rw [hext b (by omega) (by omega),hk.2 b (by omega)]

set_option maxHeartbeats 2000000 in
theorem xQc {o : List Nat} {lb B : Nat} {s2 s4 s8 s9 s10 : AV} (ho : ∀ w ∈ o,w < 18446744073709551616) (hol : o.length ≤ 65) : ∀ d i v G,i + d = o.length → G[lb]? = some (.cells false false (w64 o)) → lb < B → B ≤ G.length → GW B G v (o.take i) →
    ∃ v' G',L.loop xLa xTe ⟨xLb s2 s4 v s8 s9 s10 (.own false lb 0 o.length 1) (.int .i64 (o.length : Nat)) (.int .i64 (i : Nat)),G⟩ = some (.exit 0,⟨xLb s2 s4 v' s8 s9 s10 (.own false lb 0 o.length 1) (.int .i64 (o.length : Nat)) (.int .i64 (o.length : Nat)),G'⟩) ∧
      GW B G' v' o ∧ Kp B G G' := by
  intro d
  induction d with
  | zero =>
    intro i v G h hlb hB hG hv
    obtain rfl : i = o.length := by omega
    rw [List.take_length] at hv
    refine ⟨v,G,?_,hv,Kp.refl _ _⟩
    rw [xQz]
    simp (maxSteps := 30000000) (disch := first | assumption | omega | (simp only [List.length_cons,List.length_nil,List.length_append,List.length_set,List.length_replicate,List.length_map,List.length_range,List.length_take,List.length_drop,List.all_cons,List.all_nil,AV.isCell,Bool.and_self,Bool.and_true,xAh,xAb,xAe,xAa,List.length_map,xAo] <;> omega) | rfl | decide) only [xK9,xAq,xAf,xAc,xAk,xAB,opv,List.getD_cons_succ,List.getD_cons_zero,xAw,Int.lt_irrefl,decide_false,xAm,xAr,List.set_cons_succ,List.set_cons_zero,xAi,xAg,xAj,xAd,xAp,xAl,Bool.false_eq_true,↓reduceIte,xBm,xA6,xAX,xOk]
  | succ d ih =>
    intro i v G h hlb hB hG hv
    have hlt : (i : Int) < (o.length : Nat) := by omega
    have hi : i < o.length := by omega
    have g1 : List.take 1 (List.drop i (w64 o)) = [.int .u64 (o.getD i 0 : Nat)] := xDv _ _ hi
    have htl : (o.take i).length = i := by rw [List.length_take]; omega
    have e2 : o.take i ++ [o.getD i 0] = o.take (i + 1) := by
      rw [List.take_add_one,List.getD_eq_getElem?_getD,List.getElem?_eq_getElem hi]; rfl
    rcases xYc (ho _ (xCN (a := (0 : Nat)) hi)) with ⟨he,hc⟩ | ⟨he,hc⟩
    · have hs : xCJ (o.getD i 0) = .sl true 0 [] := by unfold xCJ; rw [he]; rfl
      have hk : Kp G.length G (G ++ [Blk.cells false false [AV.sl true 0 []]]) := ⟨by simp,fun b hb => List.getElem?_append_left hb⟩
      obtain ⟨v1,G1,p1,p2,p3⟩ := xS7 (w := o.getD i 0) hv hG hk (by rw [hs]; exact fun d _ => Fz.data rfl d (Nat.zero_le _)) (.inl rfl) (by omega)
      rw [e2] at p2
      obtain ⟨v',G',q1,q2,q3⟩ := ih (i + 1) v1 G1 (by omega) (p3.get hB hlb) hB (by have := p3.1; omega) p2
      refine ⟨v',G',?_,q2,p3.trans q3⟩
      generalize o.getD i 0 = w at *
      rw [xQz]
      simp (maxSteps := 30000000) (disch := first | assumption | omega | (simp only [List.length_cons,List.length_nil,List.length_append,List.length_set,List.length_replicate,List.length_map,List.length_range,List.length_take,List.length_drop,List.all_cons,List.all_nil,AV.isCell,Bool.and_self,Bool.and_true,xAh,xAb,xAe,xAa,List.length_map,xAo] <;> omega) | rfl | decide) only [xK9,xAq,xAf,xAc,xAk,xAB,opv,List.getD_cons_succ,List.getD_cons_zero,xAw,hlt,decide_true,xAm,xAr,List.set_cons_succ,List.set_cons_zero,xAi,xAg,xAj,xAd,xAp,xAl,↓reduceIte,xAx,xAs,xAW,xBG,Int.toNat_natCast,Nat.mul_one,Nat.zero_add,xAH,xA1,hlb,xAu,g1,xAM,xAz,xOP,xBP,List.map_cons,List.map_nil,List.flatMap_cons,xCp,List.flatMap_nil,List.append_nil,List.mapM_cons,xBa,List.mapM_nil,Option.pure_def,Option.bind_eq_bind,Option.bind_some,xIH,hc,xOQ,xDZ,xI9,xC7,xCE,List.foldl_nil,xBY,AV.cells,List.all_cons,List.length_cons,List.length_nil,beq_self_eq_true,List.all_nil,Bool.and_self,xDh,xCm,Nat.le_refl,AV.isCell,and_self,xBl,List.take_zero,List.nil_append,List.drop_succ_cons,List.drop_nil,xBX,xC8,xBZ,xKs,xCy,List.getElem?_cons_zero,xFO,List.drop_zero,List.take_succ_cons,List.take_nil,p1,xAt,xBf,xB6,xCQ,xAy,xOk,q1]
    · have hs : xCJ (o.getD i 0) = .sl false (lsW (o.getD i 0) 64).length (ints (lsW (o.getD i 0) 64)) := by
        unfold xCJ
        have : ((lsW (o.getD i 0) 64).length == 0) = false := by rw [beq_eq_false_iff_ne]; intro q; exact he (List.eq_nil_of_length_eq_zero q)
        rw [this]
      have hk : Kp G.length G (G ++ [Blk.cells false false (ints (lsW (o.getD i 0) 64)),Blk.cells false false [AV.own false G.length 0 (lsW (o.getD i 0) 64).length 1]]) := ⟨by simp,fun b hb => List.getElem?_append_left hb⟩
      have hid : (G ++ [Blk.cells false false (ints (lsW (o.getD i 0) 64)),Blk.cells false false [AV.own false G.length 0 (lsW (o.getD i 0) 64).length 1]])[G.length]? = some (.cells false false (ints (lsW (o.getD i 0) 64))) := xCy _ _
      have hln := xEJ (o.getD i 0) 64
      obtain ⟨v1,G1,p1,p2,p3⟩ := xS7 (w := o.getD i 0) (c := .own false G.length 0 (lsW (o.getD i 0) 64).length 1) hv hG hk (by rw [hs]; exact Fz.row hid (xHd _) (by rw [xAa,Nat.mul_one]) (Nat.le_refl _)) (.inr ⟨_,_,rfl,hid,by omega⟩) (by omega)
      rw [e2] at p2
      obtain ⟨v',G',q1,q2,q3⟩ := ih (i + 1) v1 G1 (by omega) (p3.get hB hlb) hB (by have := p3.1; omega) p2
      refine ⟨v',G',?_,q2,p3.trans q3⟩
      generalize o.getD i 0 = w at *
      generalize lsW w 64 = lw at *
      rw [xQz]
      simp (maxSteps := 30000000) (disch := first | assumption | omega | (simp only [List.length_cons,List.length_nil,List.length_append,List.length_set,List.length_replicate,List.length_map,List.length_range,List.length_take,List.length_drop,List.all_cons,List.all_nil,AV.isCell,Bool.and_self,Bool.and_true,xAh,xAb,xAe,xAa,List.length_map,xAo] <;> omega) | rfl | decide) only [xK9,xAq,xAf,xAc,xAk,xAB,opv,List.getD_cons_succ,List.getD_cons_zero,xAw,hlt,decide_true,xAm,xAr,List.set_cons_succ,List.set_cons_zero,xAi,xAg,xAj,xAd,xAp,xAl,↓reduceIte,xAx,xAs,xAW,xBG,Int.toNat_natCast,Nat.mul_one,Nat.zero_add,xAH,xA1,hlb,xAu,g1,xAM,xAz,xOP,xBP,List.map_cons,List.map_nil,List.flatMap_cons,xCp,List.flatMap_nil,List.append_nil,List.mapM_cons,xBa,List.mapM_nil,Option.pure_def,Option.bind_eq_bind,Option.bind_some,xIH,hc,xOQ,xDZ,xI9,xC7,Nat.add_zero,xCE,List.foldl_nil,xBY,AV.cells,List.all_cons,List.length_cons,List.length_nil,beq_self_eq_true,List.all_nil,Bool.and_self,xDh,xCm,Nat.le_refl,AV.isCell,and_self,xBl,List.take_zero,List.nil_append,List.drop_succ_cons,List.drop_nil,xBX,xC8,List.length_append,List.append_assoc,List.cons_append,xBZ,xKs,xNr,List.getElem?_cons_succ,List.getElem?_cons_zero,xFO,List.drop_zero,List.take_succ_cons,List.take_nil,p1,xAt,xBf,xB6,xCQ,xAy,xOk,q1]

section
variable {n : Aut}
structure DetOwn (n : Aut) (o : List Nat) (vN vF vS : AV) (B : xAv) : Prop where
  tN : TV2 B vN
  tF : TB B vF
  tS : TV1 B vS
  fN : ∀ d,3 ≤ d → frz d B vN = some (.sl false o.length ((xD0 n.vars (xFJ n o) o.length o.length).map rowsD))
  fF : ∀ d,1 ≤ d → frz d B vF = some (.sl false o.length (bools (xG7 (xNn n o) o.length)))
  fS : ∀ d,2 ≤ d → frz d B vS = some (xFK o)

set_option maxRecDepth 10000 in
set_option maxHeartbeats 4000000 in
theorem xS8 (hT : TyA n) (hc : xNc n = 0) {bu : Nat} (h1 : 1 ≤ bu) (h64 : bu ≤ 64) (ho : (xFg n bu).length ≤ bu) :
    ∃ i k m B,xDD L 37 [n.av,.int .i64 (bu : Nat)] = some (.tup [.agg [.int .i64 n.vars,.int .i64 0,.own false i 0 (xFg n bu).length 1,.own false k 0 (xFg n bu).length 1],.own false m 0 (xFg n bu).length 1,.int .i64 0],B) ∧ DetOwn n (xFg n bu) (.own false i 0 (xFg n bu).length 1) (.own false k 0 (xFg n bu).length 1) (.own false m 0 (xFg n bu).length 1) B := by
  have hk := xH4 n hT.st hT.fi hT.rl hT.u8
  rw [hc] at hk
  have hV := chkE_zero.1 hc
  obtain ⟨G1,lb,e1,e2⟩ := xGx hT hV h1 h64
  have hw := xVS n.z1 n.st hT.st hV.sts
  have hdone := fun (i j x : Nat) => xJy (n := n) (bu := bu) ho (i := i) (j := j) (x := x)
  have hpos := xK5 ho
  generalize xFg n bu = o at *
  have hrl := hV.rl
  have hb := hV.ok hT
  have h3l := (List.getElem?_eq_some_iff.1 e2.bl).1
  have h8l := (List.getElem?_eq_some_iff.1 e2.b8).1
  obtain ⟨vs,G2,q1,q2,q3⟩ := xQc (s2 := .ptr 0 0) (s4 := .ptr 2 0) (s8 := .ptr 4 0) (s9 := .ptr 6 0) (s10 := .ptr 7 0) (B := G1.length) e2.bd (by omega) o.length 0 (.sl true 0 []) G1 (by omega) e2.bl h3l (Nat.le_refl _) (.nil _ _)
  have hI2 : DetI n bu o lb G2 := e2.keep q3.2
  have hR : Rd n.vars o.length G2.length (.func 78 [.ptr 6 0,.ptr 7 0]) (.func 79 [.ptr 0 0,.ptr 4 0]) (xFJ n o) (xNn n o) (fun G => DetI n bu o lb G) :=
    ⟨hV.v0,hV.v3,hpos,by omega,fun G G' hJ hb => by
      have l5 := (List.getElem?_eq_some_iff.1 hI2.bl).1
      have l8 := (List.getElem?_eq_some_iff.1 hI2.b8).1
      exact ⟨hJ.nd,hJ.bd,(hb 0 (by omega)).trans hJ.b0,(hb 1 (by omega)).trans hJ.b1,(hb 2 (by omega)).trans hJ.b2,(hb 5 (by omega)).trans hJ.b5,(hb 6 (by omega)).trans hJ.b6,(hb 7 (by omega)).trans hJ.b7,(hb 8 (by omega)).trans hJ.b8,(hb 4 (by omega)).trans hJ.b4,(hb lb l5).trans hJ.bl,hJ.lo⟩,
     fun G l r x hJ hl hr hx => yAp (by omega) hb (by omega) hJ hl hr (by have := (xFe hV.v3).1; omega) (hdone l r x hl hr hx),
     fun G l hJ hl => yAs hT.fi hV.fis hJ hl⟩
  obtain ⟨G3,i,k,f1,f2,f3,f4,f5,t1,t2⟩ := xXY hR hI2
  have k0 := q3.1
  have b2 := (f4 2 (by omega)).trans hI2.b2
  have hGl : 2 < G3.length := by omega
  have same : ∀ (Z : Blk) b,b ≠ 2 → (G3.set 2 Z)[b]? = G3[b]? := fun Z b hb => List.getElem?_set_ne (Ne.symm hb)
  have g3 := fun Z => f2.frame (G' := G3.set 2 Z) (by simp) fun d hd b hb => same Z b (by have := (f2 d hd).2 b hb; omega)
  have g1 := fun Z => f3.frame (G' := G3.set 2 Z) (by simp) fun d hd b hb => same Z b (by have := (f3 d hd).2 b hb; omega)
  obtain ⟨qg,qt⟩ := q2
  have hne : o.map xCJ ≠ [] := by intro q; rw [List.map_eq_nil_iff.1 q] at hpos; simp at hpos
  obtain ⟨m,rfl⟩ : ∃ m,vs = .own false m 0 o.length 1 := by
    rcases qg with ⟨q,_⟩ | ⟨m,cs,q,_⟩
    · exact absurd q hne
    · exact ⟨m,by rw [q,List.length_map]⟩
  have qz : Fz 2 G2 G1.length (.own false m 0 o.length 1) (xFK o) := by
    rcases qg.fz with q | q
    · rw [List.length_map,show (o.length == 0) = false by rw [beq_eq_false_iff_ne]; omega] at q
      exact q
    · exact absurd q hne
  have qfr : ∀ (Z : Blk) (d : Nat),2 ≤ d → ∀ b ∈ bor d G2 (.own false m 0 o.length 1),(G3.set 2 Z)[b]? = G2[b]? := fun Z d hd b hb => by
    have := (qz d hd).2 b hb
    rw [same Z b (by omega)]
    exact f4 b this.2
  have sl := fun Z : Blk => (List.getElem?_set_self (l := G3) (a := Z) hGl)
  have sl2 := fun Z Y : Blk => (List.set_set (l := G3) (i := 2) (a := Z) (b := Y))
  have b8 := e2.b8
  rw [decide_eq_false (show ¬ bu < o.length by omega)] at b8
  have b4 := e2.b4
  have b4' := hI2.b4
  have b0' := hI2.b0
  have c1 : ¬ ((bu : Nat) : Int) < 1 := by omega
  have c2 : ¬ (64 : Int) < (bu : Nat) := by omega
  have hu0 : ∀ a b : AV,xQh a b [] = some [(a,b)] := fun _ _ => rfl
  simp only [Int.natCast_zero] at q1
  have hicall : L.icall (.func 37 []) [n.av,.int .i64 (bu : Nat)] [] =
      some (.tup [.agg [.int .i64 n.vars,.int .i64 0,.own false i 0 o.length 1,.own false k 0 o.length 1],.own false m 0 o.length 1,.int .i64 0],G3.set 2 (.cells false false [.int .i64 n.vars,.int .i64 0,.own false i 0 o.length 1,.own false k 0 o.length 1])) := by
    rw [yAy,a37]
    simp (maxSteps := 30000000) (disch := first | assumption | omega | (simp only [List.length_cons,List.length_nil,List.length_append,List.length_set,List.length_replicate,List.length_map,List.length_range,List.length_take,List.length_drop,List.all_cons,List.all_nil,AV.isCell,Bool.and_self,Bool.and_true,xAh,xAb,xAe,xAa,List.length_map,xAo] <;> omega) | rfl | decide) only [List.append_nil,xAT,List.length_cons,List.length_nil,Nat.zero_add,Nat.reduceAdd,Nat.reduceSub,xCF,List.cons_append,List.nil_append,xAq,xAf,xAc,xAk,xBv,AV.cells,opv,List.getD_cons_zero,List.all_cons,AV.isCell,List.all_nil,Bool.and_self,↓reduceIte,xAr,List.set_cons_succ,List.set_cons_zero,xAi,List.getD_cons_succ,xAz,xAg,xAj,xAd,xAH,xA1,List.getElem?_cons_zero,xAu,List.drop_zero,List.take_succ_cons,List.take_nil,xBz,xAm,xBH,List.map_cons,List.map_nil,xBi,xBP,List.mapM_cons,xCo,xBa,xB0,List.mapM_nil,Option.pure_def,Option.bind_eq_bind,Option.bind_some,Option.map_some,xBh,hk,xBg,xDx,xCq,xAB,xBy,decide_true,Bool.not_true,xAp,xAl,Bool.false_eq_true,xAx,List.getElem?_cons_succ,xAM,xAw,c1,decide_false,xAK,xAA,xBS,c2,xA9,xAL,xAQ,xAC,List.drop_succ_cons,List.take_zero,hw,xBY,beq_self_eq_true,xDh,Nat.mul_one,xCm,Nat.le_refl,and_self,xBl,List.drop_nil,xBX,xC8,xBe,xBJ,xAZ,xAN,xBq,xPm,xAW,xBG,Int.toNat_zero,Nat.add_zero,xK1,xEf,xK0,xEn,xFI,hu0,xHa,xIF,xCd,e1,b8,b4,xA3,xBT,xAs,xA7,xOk,q1,xAR,b0',b4',f1,b2,sl,sl2,xA0,xAP,xDl,xDk,xC9,xCz,xFm,xDj,xBk,xDO,xAD]
  refine ⟨_,_,_,_,xGM hicall rfl,⟨?_,?_,?_,fun d hd => (g3 _ d hd).1,fun d hd => (g1 _ d hd).1,fun d hd => ?_⟩⟩
  · exact t1.frame (d := 0) fun b hb => same _ b (by have := (f2 3 (Nat.le_refl _)).2 b hb; omega)
  · exact t2.frame (d := 0) fun b hb => same _ b (by have := (f3 1 (Nat.le_refl _)).2 b hb; omega)
  · exact TV1.frame (d := 0) qt fun b hb => qfr _ 2 (Nat.le_refl _) b hb
  · rw [(xDu d _ (qfr _ d hd)).1]
    exact (qz d hd).1

theorem xQd (hT : TyA n) (bu : Int) (h : xNc n ≠ 0) : ∃ B,xDD L 37 [n.av,.int .i64 bu] = some (.tup [zD,.sl true 0 [],.int .i64 (xNc n)],B) := by
  have h1 := xH4 n hT.st hT.fi hT.rl hT.u8
  refine ⟨[.cells false false n.cells,.cells false false [.int .i64 bu],.cells false false [.int .i64 0,.int .i64 0,.sl true 0 [],.sl true 0 []]],xGM ?_ rfl⟩
  rw [yAy,a37]
  simp (maxSteps := 30000000) (disch := first | assumption | omega | (simp only [List.length_cons,List.length_nil,List.length_append,List.length_set,List.length_replicate,List.length_map,List.length_range,List.length_take,List.length_drop,List.all_cons,List.all_nil,AV.isCell,Bool.and_self,Bool.and_true,xAh,xAb,xAe,xAa,List.length_map,xAo] <;> omega) | rfl | decide) only [List.append_nil,xAT,List.length_cons,List.length_nil,Nat.zero_add,Nat.reduceAdd,Nat.reduceSub,xCF,List.cons_append,List.nil_append,xAq,xAf,xAc,xAk,xBv,AV.cells,opv,List.getD_cons_zero,List.all_cons,AV.isCell,List.all_nil,Bool.and_self,↓reduceIte,xAr,List.set_cons_succ,List.set_cons_zero,xAi,List.getD_cons_succ,xAz,xAg,xAj,xAd,xAH,xA1,List.getElem?_cons_zero,xAu,List.drop_zero,List.take_succ_cons,List.take_nil,xBz,xAm,xBH,List.map_cons,List.map_nil,xBi,xBP,List.mapM_cons,xCo,xBa,xB0,List.mapM_nil,Option.pure_def,Option.bind_eq_bind,Option.bind_some,Option.map_some,xBh,h1,xBg,xDx,xCq,xAB,xBy,h,decide_false,Bool.not_false,xAp,xAl,xCh,xCm,xBe,xBJ,List.getElem?_cons_succ,xAZ,xBl,List.take_zero,List.drop_succ_cons,List.drop_nil,xAN,xBq,xA0,xBb,xAP,xDl,xDk,xC9,xCz,xFm,xDj,xBk,xDO,xAD]
theorem xQe (hT : TyA n) {bu : Int} (h : xNc n = 0) (hb : bu < 1 ∨ 64 < bu) : ∃ B,xDD L 37 [n.av,.int .i64 bu] = some (.tup [zD,.sl true 0 [],.int .i64 1],B) := by
  have h1 := xH4 n hT.st hT.fi hT.rl hT.u8
  rw [h] at h1
  refine ⟨[.cells false false n.cells,.cells false false [.int .i64 bu],.cells false false [.int .i64 0,.int .i64 0,.sl true 0 [],.sl true 0 []]],xGM ?_ rfl⟩
  rw [yAy,a37]
  by_cases c : bu < 1
  · simp (maxSteps := 30000000) (disch := first | assumption | omega | (simp only [List.length_cons,List.length_nil,List.length_append,List.length_set,List.length_replicate,List.length_map,List.length_range,List.length_take,List.length_drop,List.all_cons,List.all_nil,AV.isCell,Bool.and_self,Bool.and_true,xAh,xAb,xAe,xAa,List.length_map,xAo] <;> omega) | rfl | decide) only [List.append_nil,xAT,List.length_cons,List.length_nil,Nat.zero_add,Nat.reduceAdd,Nat.reduceSub,xCF,List.cons_append,List.nil_append,xAq,xAf,xAc,xAk,xBv,AV.cells,opv,List.getD_cons_zero,List.all_cons,AV.isCell,List.all_nil,Bool.and_self,↓reduceIte,xAr,List.set_cons_succ,List.set_cons_zero,xAi,List.getD_cons_succ,xAz,xAg,xAj,xAd,xAH,xA1,List.getElem?_cons_zero,xAu,List.drop_zero,List.take_succ_cons,List.take_nil,xBz,xAm,xBH,List.map_cons,List.map_nil,xBi,xBP,List.mapM_cons,xCo,xBa,xB0,List.mapM_nil,Option.pure_def,Option.bind_eq_bind,Option.bind_some,Option.map_some,xBh,h1,xBg,xDx,xCq,xAB,xBy,decide_true,Bool.not_true,xAp,xAl,Bool.false_eq_true,xAx,List.getElem?_cons_succ,xAM,xAw,c,xAK,xAA,Bool.true_eq_false,xCc,xA9,xAL,xCh,xCm,xBe,xBJ,xAZ,xBl,List.take_zero,List.drop_succ_cons,List.drop_nil,xAN,xBq,xA0,xBb,xAP,xDl,xDk,xC9,xCz,xFm,xDj,xBk,xDO,xAD]
  · have c2 : 64 < bu := by omega
    simp (maxSteps := 30000000) (disch := first | assumption | omega | (simp only [List.length_cons,List.length_nil,List.length_append,List.length_set,List.length_replicate,List.length_map,List.length_range,List.length_take,List.length_drop,List.all_cons,List.all_nil,AV.isCell,Bool.and_self,Bool.and_true,xAh,xAb,xAe,xAa,List.length_map,xAo] <;> omega) | rfl | decide) only [List.append_nil,xAT,List.length_cons,List.length_nil,Nat.zero_add,Nat.reduceAdd,Nat.reduceSub,xCF,List.cons_append,List.nil_append,xAq,xAf,xAc,xAk,xBv,AV.cells,opv,List.getD_cons_zero,List.all_cons,AV.isCell,List.all_nil,Bool.and_self,↓reduceIte,xAr,List.set_cons_succ,List.set_cons_zero,xAi,List.getD_cons_succ,xAz,xAg,xAj,xAd,xAH,xA1,List.getElem?_cons_zero,xAu,List.drop_zero,List.take_succ_cons,List.take_nil,xBz,xAm,xBH,List.map_cons,List.map_nil,xBi,xBP,List.mapM_cons,xCo,xBa,xB0,List.mapM_nil,Option.pure_def,Option.bind_eq_bind,Option.bind_some,Option.map_some,xBh,h1,xBg,xDx,xCq,xAB,xBy,decide_true,Bool.not_true,xAp,xAl,Bool.false_eq_true,xAx,List.getElem?_cons_succ,xAM,xAw,c,decide_false,xAK,xAA,xBS,c2,xA9,xAL,xCh,xCm,xBe,xBJ,xAZ,xBl,List.take_zero,List.drop_succ_cons,List.drop_nil,xAN,xBq,xA0,xBb,xAP,xDl,xDk,xC9,xCz,xFm,xDj,xBk,xDO,xAD]
set_option maxRecDepth 10000 in
set_option maxHeartbeats 2000000 in
theorem xOc (hT : TyA n) (hc : xNc n = 0) {bu : Nat} (h1 : 1 ≤ bu) (h64 : bu ≤ 64) (ho : bu < (xFg n bu).length) : ∃ B,xDD L 37 [n.av,.int .i64 (bu : Nat)] = some (.tup [zD,.sl true 0 [],.int .i64 10],B) := by
  have hk := xH4 n hT.st hT.fi hT.rl hT.u8
  rw [hc] at hk
  have hV := chkE_zero.1 hc
  obtain ⟨G,lb,e1,e2⟩ := xGx hT hV h1 h64
  have hw := xVS n.z1 n.st hT.st hV.sts
  have b8 := e2.b8
  have b2 := e2.b2
  have l2 := (List.getElem?_eq_some_iff.1 b2).1
  rw [decide_eq_true ho] at b8
  have c1 : ¬ ((bu : Nat) : Int) < 1 := by omega
  have c2 : ¬ (64 : Int) < (bu : Nat) := by omega
  have hu0 : ∀ a b : AV,xQh a b [] = some [(a,b)] := fun _ _ => rfl
  have sl := fun Z : Blk => (List.getElem?_set_self (l := G) (a := Z) l2)
  refine ⟨G.set 2 (.cells false false [.int .i64 0,.int .i64 0,.sl true 0 [],.sl true 0 []]),xGM ?_ rfl⟩
  rw [yAy,a37]
  simp (maxSteps := 30000000) (disch := first | assumption | omega | (simp only [List.length_cons,List.length_nil,List.length_append,List.length_set,List.length_replicate,List.length_map,List.length_range,List.length_take,List.length_drop,List.all_cons,List.all_nil,AV.isCell,Bool.and_self,Bool.and_true,xAh,xAb,xAe,xAa,List.length_map,xAo] <;> omega) | rfl | decide) only [List.append_nil,xAT,List.length_cons,List.length_nil,Nat.zero_add,Nat.reduceAdd,Nat.reduceSub,xCF,List.cons_append,List.nil_append,xAq,xAf,xAc,xAk,xBv,AV.cells,opv,List.getD_cons_zero,List.all_cons,AV.isCell,List.all_nil,Bool.and_self,↓reduceIte,xAr,List.set_cons_succ,List.set_cons_zero,xAi,List.getD_cons_succ,xAz,xAg,xAj,xAd,xAH,xA1,List.getElem?_cons_zero,xAu,List.drop_zero,List.take_succ_cons,List.take_nil,xBz,xAm,xBH,List.map_cons,List.map_nil,xBi,xBP,List.mapM_cons,xCo,xBa,xB0,List.mapM_nil,Option.pure_def,Option.bind_eq_bind,Option.bind_some,Option.map_some,xBh,hk,xBg,xDx,xCq,xAB,xBy,decide_true,Bool.not_true,xAp,xAl,Bool.false_eq_true,xAx,List.getElem?_cons_succ,xAM,xAw,c1,decide_false,xAK,xAA,xBS,c2,xA9,xAL,xAQ,xAC,List.drop_succ_cons,List.take_zero,hw,xBY,beq_self_eq_true,xDh,Nat.mul_one,xCm,Nat.le_refl,and_self,xBl,List.drop_nil,xBX,xC8,xBe,xBJ,xAZ,xAN,xBq,xPm,xAW,xBG,Int.toNat_zero,Nat.add_zero,xK1,xEf,xK0,xEn,xFI,hu0,xHa,xIF,xCd,e1,b8,xCh,b2,xA0,xBb,xAP,xDl,xDk,xC9,sl,xCz,xFm,xDj,xBk,xDO,xAD]
end
end Go.Abs.Det
