/- Sets of numbers as words: bitset. -/
import Derived.Test.YtdkbhidfiplncaaAMD
namespace Go.Abs.Det
open Go Go.Abs
set_option linter.unusedSimpArgs false
set_option linter.unusedVariables false


abbrev sw (z : Bool) (l : List Nat) : AV := .sl z l.length (w64 l)
def W (l : List Nat) : Prop := ∀ x ∈ l,x < 18446744073709551616

theorem W.get {l : List Nat} (h : W l) (i : Nat) : l.getD i 0 < 18446744073709551616 := by
  rw [List.getD_eq_getElem?_getD]
  cases e : l[i]? with
  | none => simp
  | some x => exact h x (List.mem_of_getElem? e)

end Go.Abs.Det

/- Sets by what they hold. -/
namespace Go.Abs.Det
open Go Go.Abs
set_option linter.unusedSimpArgs false
set_option linter.unusedVariables false

def mem (l : List Nat) (j : Nat) : Bool := decide (j < 4096) && (l.getD (j / 64) 0).testBit (j % 64)

def HasSet (v : AV) (S : Nat → Bool) : Prop := ∃ z l,v = sw z l ∧ W l ∧ l.length < 1099511627776 ∧ ∀ j,mem l j = S j

theorem HasSet.congr {v : AV} {S T : Nat → Bool} (h : HasSet v S) (e : ∀ j,S j = T j) : HasSet v T := by
  obtain ⟨z,l,rfl,w,hl,h⟩ := h
  exact ⟨z,l,rfl,w,hl,fun j => (h j).trans (e j)⟩

theorem xSF {x y : Nat} (hx : x < 18446744073709551616) (hy : y < 18446744073709551616) : x ||| y < 18446744073709551616 := by
  have : x ||| y < 2 ^ 64 := Nat.or_lt_two_pow (by omega) (by omega)
  omega

end Go.Abs.Det

/- Of,Equal; automata as values; cubes; words. -/
namespace Go.Abs.Det
open Go Go.Abs
set_option linter.unusedSimpArgs false
set_option linter.unusedVariables false

end Go.Abs.Det

/- Cubes. -/
namespace Go.Abs.Det
open Go Go.Abs
set_option linter.unusedSimpArgs false
set_option linter.unusedVariables false

def xQk (p n x : Nat) : Bool := decide (x &&& p = p) && decide (x &&& n = 0)

def xFF (v p n : Nat) : Int := if 2 ^ v ≤ p ||| n then 7 else if p &&& n = 0 then 0 else 2

theorem yEd {v : Nat} (hv : v ≤ 6) : IntKind.i64.wrap (1 * 2 ^ min v IntKind.i64.bits) = ((2 ^ v : Nat) : Int) := by
  have : v = 0 ∨ v = 1 ∨ v = 2 ∨ v = 3 ∨ v = 4 ∨ v = 5 ∨ v = 6 := by omega
  rcases this with rfl | rfl | rfl | rfl | rfl | rfl | rfl <;> rfl

theorem xSG (v p n : Nat) (hv : v ≤ 6) (hp : p < 256) (hn : n < 256) : L.pcall 90 [.agg [.int .u8 (p : Nat),.int .u8 (n : Nat)],.int .i64 (v : Nat)] = some (.int .i64 (xFF v p n)) := by
  have h1 := or8 hp hn
  have h2 := xVj hp hn
  have h3 : ¬ ((6 : Int) < (v : Nat)) := by omega
  have hor : p ||| n < 256 := by
    have := Nat.or_lt_two_pow (x := p) (y := n) (n := 8) (by omega) (by omega)
    omega
  have e1 : (((2 ^ v : Nat) : Int) ≤ ((p ||| n : Nat) : Int)) = (2 ^ v ≤ p ||| n) := propext ⟨fun h => by omega,fun h => by omega⟩
  have e2 : (((p &&& n : Nat) : Int) = 0) = (p &&& n = 0) := propext ⟨fun h => by omega,fun h => by omega⟩
  have hsh := yEd hv
  unfold xFF
  rw [yEE,a90,xBA]
  by_cases c1 : 2 ^ v ≤ p ||| n
  · simp (maxSteps := 30000000) (disch := first | assumption | omega | (simp only [List.length_cons,List.length_nil,List.length_append,List.length_set,List.length_replicate,List.length_map,List.length_range,List.length_take,List.length_drop,List.all_cons,List.all_nil,AV.isCell,Bool.and_self,Bool.and_true,xAh,xAb,xAe,xAa] <;> omega) | rfl | decide) only [xAT,List.length_cons,List.length_nil,Nat.zero_add,Nat.reduceAdd,Nat.reduceSub,xCF,List.cons_append,List.nil_append,xAq,xAf,xAc,xAk,xBv,AV.cells,opv,List.getD_cons_zero,List.all_cons,AV.isCell,List.all_nil,Bool.and_self,↓reduceIte,xAr,List.set_cons_succ,List.set_cons_zero,xAi,xAz,xAg,xAj,xAd,xAs,List.getD_cons_succ,xAB,xAw,yDx,decide_false,xAm,xAK,xAA,xBS,h3,xA9,xAL,Bool.false_eq_true,xAp,xAl,xBt,List.take_succ_cons,List.take_zero,xAU,xA5,xCw,xAQ,xAC,Nat.add_zero,xBj,xBp,xBd,xBE,xAH,xA1,List.getElem?_cons_zero,xAu,List.drop_zero,xAM,List.drop_succ_cons,List.take_nil,xCY,xMh,h1,xDG,xCL,xCa,xCQ,xA2,xBc,xCf,xBo,xCv,Int.toNat_natCast,hsh,xCj,e1,c1,decide_true,xA0,xA8,xBb,xAP,xAV,xBk,xAD,xAS,xBP,xBa]
  · by_cases c2 : p &&& n = 0 <;> simp (maxSteps := 30000000) (disch := first | assumption | omega | (simp only [List.length_cons,List.length_nil,List.length_append,List.length_set,List.length_replicate,List.length_map,List.length_range,List.length_take,List.length_drop,List.all_cons,List.all_nil,AV.isCell,Bool.and_self,Bool.and_true,xAh,xAb,xAe,xAa] <;> omega) | rfl | decide) only [xAT,List.length_cons,List.length_nil,Nat.zero_add,Nat.reduceAdd,Nat.reduceSub,xCF,List.cons_append,List.nil_append,xAq,xAf,xAc,xAk,xBv,AV.cells,opv,List.getD_cons_zero,List.all_cons,AV.isCell,List.all_nil,Bool.and_self,↓reduceIte,xAr,List.set_cons_succ,List.set_cons_zero,xAi,xAz,xAg,xAj,xAd,xAs,List.getD_cons_succ,xAB,xAw,yDx,decide_false,xAm,xAK,xAA,xBS,h3,xA9,xAL,Bool.false_eq_true,xAp,xAl,xBt,List.take_succ_cons,List.take_zero,xAU,xA5,xCw,xAQ,xAC,Nat.add_zero,xBj,xBp,xBd,xBE,xAH,xA1,List.getElem?_cons_zero,xAu,List.drop_zero,xAM,List.drop_succ_cons,List.take_nil,xCY,xMh,h1,xDG,xCL,xCa,xCQ,xA2,xBc,xCf,xBo,xCv,Int.toNat_natCast,hsh,xCj,e1,c1,xC2,h2,c2,xC0,xBy,decide_true,Bool.not_true,xAx,xAt,xA0,xAP,xAV,xBk,xAD,xAS,xBP,xBa,e2,Bool.not_false,xA8,xBb]
end Go.Abs.Det

/- Automata and trees as values; the lists of states; Check. -/
namespace Go.Abs.Det
open Go Go.Abs
set_option linter.unusedSimpArgs false
set_option linter.unusedVariables false

structure Rl where
  l : Int
  r : Int
  t : Int
  p : Nat
  n : Nat
def rl0 : Rl := ⟨0,0,0,0,0⟩
def xF6 (e : Rl) : List AV := [.int .i64 e.l,.int .i64 e.r,.int .i64 e.t,.int .u8 (e.p : Nat),.int .u8 (e.n : Nat)]
def rls (l : List Rl) : List AV := rows xF6 l
theorem xAo (l : List Rl) : (rls l).length = l.length * 5 := xJk (enc := xF6) (k := 5) (fun _ => rfl) l
theorem xDr {l : List Rl} {i : Nat} (h : i < l.length) : List.take 5 (List.drop (i * 5) (rls l)) = [.int .i64 (l.getD i rl0).l,.int .i64 (l.getD i rl0).r,.int .i64 (l.getD i rl0).t,.int .u8 ((l.getD i rl0).p : Nat),.int .u8 ((l.getD i rl0).n : Nat)] := by
  unfold rls
  rw [xM9 (enc := xF6) (k := 5) (fun _ => rfl),List.drop_eq_getElem_cons h]
  have : l.getD i rl0 = l[i] := by simp [List.getD,List.getElem?_eq_getElem h]
  rw [this]
  rfl
theorem xFG {l : List Rl} {i : Nat} (h : i < l.length) : l.drop i = l.getD i rl0 :: l.drop (i + 1) := by
  rw [List.drop_eq_getElem_cons h]
  simp [List.getD,List.getElem?_eq_getElem h]
theorem xG6 {l : List Rl} {i : Nat} (h : i < l.length) : l.getD i rl0 ∈ l := by
  rw [List.getD_eq_getElem?_getD,List.getElem?_eq_getElem h]
  exact List.getElem_mem _

structure Aut where
  vars : Int
  states : Int
  z1 : Bool
  st : List Int
  z2 : Bool
  fi : List Int
  z3 : Bool
  rl : List Rl

abbrev Aut.cells (n : Aut) : List AV := [.int .i64 n.vars,.int .i64 n.states,iw n.z1 n.st,iw n.z2 n.fi,.sl n.z3 n.rl.length (rls n.rl)]
abbrev Aut.av (n : Aut) : AV := .agg n.cells

def xHR (s : Int) : Int → List Int → Bool
  | _,[] => true
  | last,q :: t => if q ≤ last ∨ s ≤ q then false else xHR s q t

theorem xPd {s : Int} {z : Bool} {l : List Int} {s4 : AV} {H : xAv} (hl : l.length < 1099511627776) : ∀ d i last,i + d = l.length →
    ∃ (last' : Int) (i' : Nat),L.loop xMe xTA ⟨xJU (.int .i64 s) s4 (.int .i64 last) (iw z l) (.int .i64 (l.length : Nat)) (.int .i64 (i : Nat)),H⟩ =
      some (if xHR s last (l.drop i) = true then (.exit 0,⟨xJU (.int .i64 s) s4 (.int .i64 last') (iw z l) (.int .i64 (l.length : Nat)) (.int .i64 (l.length : Nat)),H⟩)
        else (.ret,⟨xJU (.int .i64 s) (.int .i64 8) (.int .i64 last') (iw z l) (.int .i64 (l.length : Nat)) (.int .i64 (i' : Nat)),H⟩))
  | 0,i,last,h => by
    obtain rfl : i = l.length := by omega
    refine ⟨last,0,?_⟩
    rw [if_pos (by rw [List.drop_length]; rfl),xOI]
    simp (maxSteps := 30000000) (disch := first | assumption | omega | (simp only [List.length_cons,List.length_nil,List.length_append,List.length_set,List.length_replicate,List.length_map,List.length_range,List.length_take,List.length_drop,List.all_cons,List.all_nil,AV.isCell,Bool.and_self,Bool.and_true,xAh,xAb,xAe,xAa,xAo] <;> omega) | rfl | decide) only [xIv,xAq,xAf,xAc,xAk,xAB,opv,List.getD_cons_succ,List.getD_cons_zero,xAw,Int.lt_irrefl,decide_false,xAm,xAr,List.set_cons_succ,List.set_cons_zero,xAi,xAg,xAj,xAd,xAp,xAl,Bool.false_eq_true,↓reduceIte,xBm,xA6,xAX,xIw]
  | d + 1,i,last,h => by
    have hlt : (i : Int) < (l.length : Nat) := by omega
    rw [xDU (by omega : i < l.length)]
    by_cases c1 : l.getD i 0 ≤ last
    · refine ⟨last,i,?_⟩
      have ea : xHR s last (l.getD i 0 :: l.drop (i + 1)) = false := if_pos (.inl c1)
      rw [ea,if_neg (by simp),xOI]
      simp (maxSteps := 30000000) (disch := first | assumption | omega | (simp only [List.length_cons,List.length_nil,List.length_append,List.length_set,List.length_replicate,List.length_map,List.length_range,List.length_take,List.length_drop,List.all_cons,List.all_nil,AV.isCell,Bool.and_self,Bool.and_true,xAh,xAb,xAe,xAa,xAo] <;> omega) | rfl | decide) only [xIv,xAq,xAf,xAc,xAk,xAB,opv,List.getD_cons_succ,List.getD_cons_zero,xAw,hlt,decide_true,xAm,xAr,List.set_cons_succ,List.set_cons_zero,xAi,xAg,xAj,xAd,xAp,xAl,↓reduceIte,xAx,xAs,xAW,xAY,Int.toNat_natCast,Nat.mul_one,xAH,xBn,xB1,xBR,xCu,xBW,Nat.add_zero,xAM,xAz,xDF,c1,xAK,xAA,Bool.true_eq_false,xCc,xA9,xAL,xA0,xBb,xA8,xBK,xIw]
    · by_cases c2 : s ≤ l.getD i 0
      · refine ⟨last,i,?_⟩
        have ea : xHR s last (l.getD i 0 :: l.drop (i + 1)) = false := if_pos (.inr c2)
        rw [ea,if_neg (by simp),xOI]
        simp (maxSteps := 30000000) (disch := first | assumption | omega | (simp only [List.length_cons,List.length_nil,List.length_append,List.length_set,List.length_replicate,List.length_map,List.length_range,List.length_take,List.length_drop,List.all_cons,List.all_nil,AV.isCell,Bool.and_self,Bool.and_true,xAh,xAb,xAe,xAa,xAo] <;> omega) | rfl | decide) only [xIv,xAq,xAf,xAc,xAk,xAB,opv,List.getD_cons_succ,List.getD_cons_zero,xAw,hlt,decide_true,xAm,xAr,List.set_cons_succ,List.set_cons_zero,xAi,xAg,xAj,xAd,xAp,xAl,↓reduceIte,xAx,xAs,xAW,xAY,Int.toNat_natCast,Nat.mul_one,xAH,xBn,xB1,xBR,xCu,xBW,Nat.add_zero,xAM,xAz,xDF,c1,decide_false,xAK,xAA,xCj,c2,xA9,xAL,Bool.false_eq_true,xA0,xBb,xA8,xBK,xIw]
      · obtain ⟨last',i',ih⟩ := xPd (s := s) (z := z) (s4 := s4) (H := H) hl d (i + 1) (l.getD i 0) (by omega)
        refine ⟨last',i',?_⟩
        have ea : xHR s last (l.getD i 0 :: l.drop (i + 1)) = xHR s (l.getD i 0) (l.drop (i + 1)) := if_neg (by omega)
        rw [ea,xOI]
        by_cases e : xHR s (l.getD i 0) (l.drop (i + 1)) = true
        · rw [if_pos e] at ih ⊢
          simp (maxSteps := 30000000) (disch := first | assumption | omega | (simp only [List.length_cons,List.length_nil,List.length_append,List.length_set,List.length_replicate,List.length_map,List.length_range,List.length_take,List.length_drop,List.all_cons,List.all_nil,AV.isCell,Bool.and_self,Bool.and_true,xAh,xAb,xAe,xAa,xAo] <;> omega) | rfl | decide) only [xIv,xAq,xAf,xAc,xAk,xAB,opv,List.getD_cons_succ,List.getD_cons_zero,xAw,hlt,decide_true,xAm,xAr,List.set_cons_succ,List.set_cons_zero,xAi,xAg,xAj,xAd,xAp,xAl,↓reduceIte,xAx,xAs,xAW,xAY,Int.toNat_natCast,Nat.mul_one,xAH,xBn,xB1,xBR,xCu,xBW,Nat.add_zero,xAM,xAz,xDF,c1,decide_false,xAK,xAA,xCj,c2,xA9,xAL,Bool.false_eq_true,xAt,xBf,xB6,xCQ,xAy,xIw,ih]
        · rw [if_neg e] at ih ⊢
          simp (maxSteps := 30000000) (disch := first | assumption | omega | (simp only [List.length_cons,List.length_nil,List.length_append,List.length_set,List.length_replicate,List.length_map,List.length_range,List.length_take,List.length_drop,List.all_cons,List.all_nil,AV.isCell,Bool.and_self,Bool.and_true,xAh,xAb,xAe,xAa,xAo] <;> omega) | rfl | decide) only [xIv,xAq,xAf,xAc,xAk,xAB,opv,List.getD_cons_succ,List.getD_cons_zero,xAw,hlt,decide_true,xAm,xAr,List.set_cons_succ,List.set_cons_zero,xAi,xAg,xAj,xAd,xAp,xAl,↓reduceIte,xAx,xAs,xAW,xAY,Int.toNat_natCast,Nat.mul_one,xAH,xBn,xB1,xBR,xCu,xBW,Nat.add_zero,xAM,xAz,xDF,c1,decide_false,xAK,xAA,xCj,c2,xA9,xAL,Bool.false_eq_true,xAt,xBf,xB6,xCQ,xAy,xIw,ih]

def xDE (s : Int) (l : List Int) : Int := if xHR s (-1) l = true then 0 else 8
theorem xVN (s : Int) (z : Bool) (l : List Int) (hl : l.length < 1099511627776) : L.pcall 89 [iw z l,.int .i64 s] = some (.int .i64 (xDE s l)) := by
  obtain ⟨last',i',h⟩ := xPd (s := s) (z := z) (s4 := .int .i64 0) (H := []) hl l.length 0 (-1) (by omega)
  simp only [Int.natCast_zero,List.drop_zero] at h
  unfold xDE
  rw [yED,a89,xBA]
  by_cases e : xHR s (-1) l = true
  · rw [if_pos e] at h ⊢
    simp (maxSteps := 30000000) (disch := first | assumption | omega | (simp only [List.length_cons,List.length_nil,List.length_append,List.length_set,List.length_replicate,List.length_map,List.length_range,List.length_take,List.length_drop,List.all_cons,List.all_nil,AV.isCell,Bool.and_self,Bool.and_true,xAh,xAb,xAe,xAa,xAo] <;> omega) | rfl | decide) only [Int.reduceNeg,xAT,List.length_cons,List.length_nil,Nat.zero_add,Nat.reduceAdd,Nat.reduceSub,xCF,List.cons_append,List.nil_append,xAq,xAf,xAc,xAk,xAz,opv,xAr,List.set_cons_succ,List.set_cons_zero,xAi,xAg,xAj,xAd,List.getD_cons_zero,xA3,List.getD_cons_succ,xA4,xAm,xAs,xA7,xIw,h,xAR,↓reduceIte,xA0,xAP,xAV,xBk,xAD,xAS,xBP,xBa]
  · rw [if_neg e] at h ⊢
    simp (maxSteps := 30000000) (disch := first | assumption | omega | (simp only [List.length_cons,List.length_nil,List.length_append,List.length_set,List.length_replicate,List.length_map,List.length_range,List.length_take,List.length_drop,List.all_cons,List.all_nil,AV.isCell,Bool.and_self,Bool.and_true,xAh,xAb,xAe,xAa,xAo] <;> omega) | rfl | decide) only [Int.reduceNeg,xAT,List.length_cons,List.length_nil,Nat.zero_add,Nat.reduceAdd,Nat.reduceSub,xCF,List.cons_append,List.nil_append,xAq,xAf,xAc,xAk,xAz,opv,xAr,List.set_cons_succ,List.set_cons_zero,xAi,xAg,xAj,xAd,List.getD_cons_zero,xA3,List.getD_cons_succ,xA4,xAm,xAs,xA7,xIw,h,xA8,xBb,xAP,xAV,xBk,xAD,xAS,xBP,xBa]

def xHT (s : Int) (v : Nat) (e : Rl) : Int := if min (min e.l e.r) e.t < 0 ∨ s ≤ max (max e.l e.r) e.t then 8 else xFF v e.p e.n
def xD3 (s : Int) (v : Nat) : List Rl → Int
  | [] => 0
  | e :: t => if xHT s v e = 0 then xD3 s v t else xHT s v e
theorem xCV {s : Int} {v : Nat} {e : Rl} {t : List Rl} (h : xHT s v e ≠ 0) : xD3 s v (e :: t) = xHT s v e := if_neg h
theorem xNb {s : Int} {v : Nat} {e : Rl} {t : List Rl} (h : xHT s v e = 0) : xD3 s v (e :: t) = xD3 s v t := if_pos h

theorem xP5 (n : Aut) {s2 : AV} (h1 : n.st.length < 1099511627776) (h2 : n.fi.length < 1099511627776) :
    ∃ i' : AV,L.loop xJI xQK ⟨xHB (.ptr 0 0) s2 (.agg [iw n.z1 n.st,iw n.z2 n.fi]) (.int .i64 0),[.cells false false n.cells]⟩ =
      some (if xDE n.states n.st = 0 ∧ xDE n.states n.fi = 0 then (.exit 1,⟨xHB (.ptr 0 0) s2 (.agg [iw n.z1 n.st,iw n.z2 n.fi]) (.int .i64 2),[.cells false false n.cells]⟩)
        else (.ret,⟨xHB (.ptr 0 0) (.int .i64 8) (.agg [iw n.z1 n.st,iw n.z2 n.fi]) i',[.cells false false n.cells]⟩)) := by
  have e1 := xVN n.states n.z1 n.st h1
  have e2 := xVN n.states n.z2 n.fi h2
  have k2 : L.loop xJI xQK ⟨xHB (.ptr 0 0) s2 (.agg [iw n.z1 n.st,iw n.z2 n.fi]) (.int .i64 2),[.cells false false n.cells]⟩ = some (.exit 1,⟨xHB (.ptr 0 0) s2 (.agg [iw n.z1 n.st,iw n.z2 n.fi]) (.int .i64 2),[.cells false false n.cells]⟩) := by
    rw [xJJ]
    simp (maxSteps := 30000000) (disch := first | assumption | omega | (simp only [List.length_cons,List.length_nil,List.length_append,List.length_set,List.length_replicate,List.length_map,List.length_range,List.length_take,List.length_drop,List.all_cons,List.all_nil,AV.isCell,Bool.and_self,Bool.and_true,xAh,xAb,xAe,xAa,xAo] <;> omega) | rfl | decide) only [xHA,xAq,xAf,xAc,xAk,xAB,opv,List.getD_cons_succ,List.getD_cons_zero,xAw,Int.lt_irrefl,decide_false,xAm,xAr,List.set_cons_succ,List.set_cons_zero,xAi,xAg,xAj,xAd,xAp,xAl,Bool.false_eq_true,↓reduceIte,xBm,xA6,xAX,xGE]
  have g : ∀ l,xDE n.states l = 0 ∨ xDE n.states l = 8 := fun l => by unfold xDE; split <;> simp
  rcases g n.st with c1 | c1
  · rcases g n.fi with c2 | c2
    · refine ⟨.int .i64 2,?_⟩
      rw [c1] at e1
      rw [c2] at e2
      rw [if_pos ⟨c1,c2⟩,xJJ]
      simp (maxSteps := 30000000) (disch := first | assumption | omega | (simp only [List.length_cons,List.length_nil,List.length_append,List.length_set,List.length_replicate,List.length_map,List.length_range,List.length_take,List.length_drop,List.all_cons,List.all_nil,AV.isCell,Bool.and_self,Bool.and_true,xAh,xAb,xAe,xAa,xAo] <;> omega) | rfl | decide) only [xHA,xAq,xAf,xAc,xAk,xAB,opv,List.getD_cons_succ,List.getD_cons_zero,xAw,Int.reduceLT,decide_true,xAm,xAr,List.set_cons_succ,List.set_cons_zero,xAi,xAg,xAj,xAd,xAp,xAl,↓reduceIte,xAx,xAs,xGN,xD5,Int.toNat_zero,Nat.mul_one,List.drop_zero,List.take_succ_cons,List.take_zero,xRn,xAz,xAQ,xAC,Nat.zero_add,xAH,xA1,List.getElem?_cons_zero,xAu,List.drop_succ_cons,xAM,xBH,List.map_cons,List.map_nil,xBi,xBP,List.mapM_cons,xB0,xBa,List.mapM_nil,Option.pure_def,Option.bind_eq_bind,Option.bind_some,xBh,e1,xBg,xDx,xCq,xBy,Bool.not_true,Bool.false_eq_true,xAt,xBf,Int.zero_add,xCQ,xAy,xGE]
      rw [xJJ]
      simp (maxSteps := 30000000) (disch := first | assumption | omega | (simp only [List.length_cons,List.length_nil,List.length_append,List.length_set,List.length_replicate,List.length_map,List.length_range,List.length_take,List.length_drop,List.all_cons,List.all_nil,AV.isCell,Bool.and_self,Bool.and_true,xAh,xAb,xAe,xAa,xAo] <;> omega) | rfl | decide) only [xHA,xAq,xAf,xAc,xAk,xAB,opv,List.getD_cons_succ,List.getD_cons_zero,xAw,Int.reduceLT,decide_true,xAm,xAr,List.set_cons_succ,List.set_cons_zero,xAi,xAg,xAj,xAd,xAp,xAl,↓reduceIte,xAx,xAs,xGN,xD5,Int.toNat_one,Nat.mul_one,List.drop_succ_cons,List.drop_zero,List.take_succ_cons,List.take_nil,xRn,xAz,xAQ,xAC,Nat.zero_add,xAH,xA1,List.getElem?_cons_zero,xAu,List.take_zero,xAM,xBH,List.map_cons,List.map_nil,xBi,xBP,List.mapM_cons,xB0,xBa,List.mapM_nil,Option.pure_def,Option.bind_eq_bind,Option.bind_some,xBh,e2,xBg,xDx,xCq,xBy,Bool.not_true,Bool.false_eq_true,xAt,xBf,Int.reduceAdd,xCQ,xAy,xGE,k2]
    · refine ⟨.int .i64 1,?_⟩
      rw [c1] at e1
      rw [c2] at e2
      rw [if_neg (by omega),xJJ]
      simp (maxSteps := 30000000) (disch := first | assumption | omega | (simp only [List.length_cons,List.length_nil,List.length_append,List.length_set,List.length_replicate,List.length_map,List.length_range,List.length_take,List.length_drop,List.all_cons,List.all_nil,AV.isCell,Bool.and_self,Bool.and_true,xAh,xAb,xAe,xAa,xAo] <;> omega) | rfl | decide) only [xHA,xAq,xAf,xAc,xAk,xAB,opv,List.getD_cons_succ,List.getD_cons_zero,xAw,Int.reduceLT,decide_true,xAm,xAr,List.set_cons_succ,List.set_cons_zero,xAi,xAg,xAj,xAd,xAp,xAl,↓reduceIte,xAx,xAs,xGN,xD5,Int.toNat_zero,Nat.mul_one,List.drop_zero,List.take_succ_cons,List.take_zero,xRn,xAz,xAQ,xAC,Nat.zero_add,xAH,xA1,List.getElem?_cons_zero,xAu,List.drop_succ_cons,xAM,xBH,List.map_cons,List.map_nil,xBi,xBP,List.mapM_cons,xB0,xBa,List.mapM_nil,Option.pure_def,Option.bind_eq_bind,Option.bind_some,xBh,e1,xBg,xDx,xCq,xBy,Bool.not_true,Bool.false_eq_true,xAt,xBf,Int.zero_add,xCQ,xAy,xGE]
      rw [xJJ]
      simp (maxSteps := 30000000) (disch := first | assumption | omega | (simp only [List.length_cons,List.length_nil,List.length_append,List.length_set,List.length_replicate,List.length_map,List.length_range,List.length_take,List.length_drop,List.all_cons,List.all_nil,AV.isCell,Bool.and_self,Bool.and_true,xAh,xAb,xAe,xAa,xAo] <;> omega) | rfl | decide) only [xHA,xAq,xAf,xAc,xAk,xAB,opv,List.getD_cons_succ,List.getD_cons_zero,xAw,Int.reduceLT,decide_true,xAm,xAr,List.set_cons_succ,List.set_cons_zero,xAi,xAg,xAj,xAd,xAp,xAl,↓reduceIte,xAx,xAs,xGN,xD5,Int.toNat_one,Nat.mul_one,List.drop_succ_cons,List.drop_zero,List.take_succ_cons,List.take_nil,xRn,xAz,xAQ,xAC,Nat.zero_add,xAH,xA1,List.getElem?_cons_zero,xAu,List.take_zero,xAM,xBH,List.map_cons,List.map_nil,xBi,xBP,List.mapM_cons,xB0,xBa,List.mapM_nil,Option.pure_def,Option.bind_eq_bind,Option.bind_some,xBh,e2,xBg,xDx,xCq,xBy,Int.reduceEq,decide_false,Bool.not_false,xA0,xA8,xBb,xBK,xGE]
  · refine ⟨.int .i64 0,?_⟩
    rw [c1] at e1
    rw [if_neg (by omega),xJJ]
    simp (maxSteps := 30000000) (disch := first | assumption | omega | (simp only [List.length_cons,List.length_nil,List.length_append,List.length_set,List.length_replicate,List.length_map,List.length_range,List.length_take,List.length_drop,List.all_cons,List.all_nil,AV.isCell,Bool.and_self,Bool.and_true,xAh,xAb,xAe,xAa,xAo] <;> omega) | rfl | decide) only [xHA,xAq,xAf,xAc,xAk,xAB,opv,List.getD_cons_succ,List.getD_cons_zero,xAw,Int.reduceLT,decide_true,xAm,xAr,List.set_cons_succ,List.set_cons_zero,xAi,xAg,xAj,xAd,xAp,xAl,↓reduceIte,xAx,xAs,xGN,xD5,Int.toNat_zero,Nat.mul_one,List.drop_zero,List.take_succ_cons,List.take_zero,xRn,xAz,xAQ,xAC,Nat.zero_add,xAH,xA1,List.getElem?_cons_zero,xAu,List.drop_succ_cons,xAM,xBH,List.map_cons,List.map_nil,xBi,xBP,List.mapM_cons,xB0,xBa,List.mapM_nil,Option.pure_def,Option.bind_eq_bind,Option.bind_some,xBh,e1,xBg,xDx,xCq,xBy,Int.reduceEq,decide_false,Bool.not_false,xA0,xA8,xBb,xBK,xGE]

set_option maxHeartbeats 4000000 in
theorem xKk {n : Aut} {v : Nat} {s2 : AV} (hv : v ≤ 6) (hnv : n.vars = (v : Nat)) (hl : n.rl.length < 1099511627776) (hb : ∀ e ∈ n.rl,e.p < 256 ∧ e.n < 256) : ∀ d i T,i + d = n.rl.length →
    ∃ (T' : xAv) (i' : Nat),L.loop xLv xTl ⟨xJK (.ptr 0 0) s2 (.sl n.z3 n.rl.length (rls n.rl)) (.int .i64 (n.rl.length : Nat)) (.int .i64 (i : Nat)),.cells false false n.cells :: T⟩ =
      some (if xD3 n.states v (n.rl.drop i) = 0 then (.exit 3,⟨xJK (.ptr 0 0) s2 (.sl n.z3 n.rl.length (rls n.rl)) (.int .i64 (n.rl.length : Nat)) (.int .i64 (n.rl.length : Nat)),.cells false false n.cells :: T'⟩)
        else (.ret,⟨xJK (.ptr 0 0) (.int .i64 (xD3 n.states v (n.rl.drop i))) (.sl n.z3 n.rl.length (rls n.rl)) (.int .i64 (n.rl.length : Nat)) (.int .i64 (i' : Nat)),.cells false false n.cells :: T'⟩))
  | 0,i,T,h => by
    obtain rfl : i = n.rl.length := by omega
    refine ⟨T,0,?_⟩
    rw [if_pos (by rw [List.drop_length]; rfl),xLw]
    simp (maxSteps := 30000000) (disch := first | assumption | omega | (simp only [List.length_cons,List.length_nil,List.length_append,List.length_set,List.length_replicate,List.length_map,List.length_range,List.length_take,List.length_drop,List.all_cons,List.all_nil,AV.isCell,Bool.and_self,Bool.and_true,xAh,xAb,xAe,xAa,xAo] <;> omega) | rfl | decide) only [xHC,xAq,xAf,xAc,xAk,xAB,opv,List.getD_cons_succ,List.getD_cons_zero,xAw,Int.lt_irrefl,decide_false,xAm,xAr,List.set_cons_succ,List.set_cons_zero,xAi,xAg,xAj,xAd,xAp,xAl,Bool.false_eq_true,↓reduceIte,xBm,xA6,xAX,xHD]
  | d + 1,i,T,h => by
    have hlt : (i : Int) < (n.rl.length : Nat) := by omega
    have hm := hb _ (xG6 (by omega : i < n.rl.length))
    have hcube := xSG v (n.rl.getD i rl0).p (n.rl.getD i rl0).n hv hm.1 hm.2
    rw [xFG (by omega : i < n.rl.length)]
    by_cases c1 : min (min (n.rl.getD i rl0).l (n.rl.getD i rl0).r) (n.rl.getD i rl0).t < 0
    · refine ⟨T ++ [.cells false false (xF6 (n.rl.getD i rl0))],i,?_⟩
      have ee : xHT n.states v (n.rl.getD i rl0) = 8 := if_pos (.inl c1)
      rw [xCV (by rw [ee]; omega),ee,if_neg (by omega),xLw]
      simp (maxSteps := 30000000) (disch := first | assumption | omega | (simp only [List.length_cons,List.length_nil,List.length_append,List.length_set,List.length_replicate,List.length_map,List.length_range,List.length_take,List.length_drop,List.all_cons,List.all_nil,AV.isCell,Bool.and_self,Bool.and_true,xAh,xAb,xAe,xAa,xAo] <;> omega) | rfl | decide) only [xHC,xAq,xAf,xAc,xAk,xAB,opv,List.getD_cons_succ,List.getD_cons_zero,xAw,hlt,decide_true,xAm,xAr,List.set_cons_succ,List.set_cons_zero,xAi,xAg,xAj,xAd,xAp,xAl,↓reduceIte,xAx,xAs,xAW,xAY,Int.toNat_natCast,xAH,xBn,xDr,xBz,xBv,AV.cells,List.all_cons,AV.isCell,List.all_nil,Bool.and_self,List.length_cons,List.cons_append,xBe,List.length_nil,Nat.zero_add,Nat.reduceAdd,xBJ,List.getElem?_cons_succ,xCy,List.getElem?_cons_zero,xAZ,xBl,List.take_zero,List.nil_append,List.drop_succ_cons,List.drop_nil,List.append_nil,xC1,xAN,xBq,xAQ,xAC,Nat.add_zero,xA1,xAu,List.drop_zero,List.take_succ_cons,xAM,xRA,List.map_cons,List.map_nil,xIK,xIJ,c1,xAz,xAK,xAA,Bool.true_eq_false,xCc,xA9,xAL,xA0,xBb,xA8,xBK,xHD,xF6]
    · by_cases c2 : n.states ≤ max (max (n.rl.getD i rl0).l (n.rl.getD i rl0).r) (n.rl.getD i rl0).t
      · refine ⟨T ++ [.cells false false (xF6 (n.rl.getD i rl0))],i,?_⟩
        have ee : xHT n.states v (n.rl.getD i rl0) = 8 := if_pos (.inr c2)
        rw [xCV (by rw [ee]; omega),ee,if_neg (by omega),xLw]
        simp (maxSteps := 30000000) (disch := first | assumption | omega | (simp only [List.length_cons,List.length_nil,List.length_append,List.length_set,List.length_replicate,List.length_map,List.length_range,List.length_take,List.length_drop,List.all_cons,List.all_nil,AV.isCell,Bool.and_self,Bool.and_true,xAh,xAb,xAe,xAa,xAo] <;> omega) | rfl | decide) only [xHC,xAq,xAf,xAc,xAk,xAB,opv,List.getD_cons_succ,List.getD_cons_zero,xAw,hlt,decide_true,xAm,xAr,List.set_cons_succ,List.set_cons_zero,xAi,xAg,xAj,xAd,xAp,xAl,↓reduceIte,xAx,xAs,xAW,xAY,Int.toNat_natCast,xAH,xBn,xDr,xBz,xBv,AV.cells,List.all_cons,AV.isCell,List.all_nil,Bool.and_self,List.length_cons,List.cons_append,xBe,List.length_nil,Nat.zero_add,Nat.reduceAdd,xBJ,List.getElem?_cons_succ,xCy,List.getElem?_cons_zero,xAZ,xBl,List.take_zero,List.nil_append,List.drop_succ_cons,List.drop_nil,List.append_nil,xC1,xAN,xBq,xAQ,xAC,Nat.add_zero,xA1,xAu,List.drop_zero,List.take_succ_cons,xAM,xRA,List.map_cons,List.map_nil,xIK,xIJ,c1,decide_false,xAz,xAK,xAA,xKw,xCj,c2,xA9,xAL,Bool.false_eq_true,xA0,xBb,xA8,xBK,xHD,xF6]
      · have ee : xHT n.states v (n.rl.getD i rl0) = xFF v (n.rl.getD i rl0).p (n.rl.getD i rl0).n := if_neg (by omega)
        by_cases c3 : xFF v (n.rl.getD i rl0).p (n.rl.getD i rl0).n = 0
        · obtain ⟨T',i',ih⟩ := xKk (s2 := s2) hv hnv hl hb d (i + 1) (T ++ [.cells false false (xF6 (n.rl.getD i rl0))]) (by omega)
          refine ⟨T',i',?_⟩
          rw [c3] at hcube
          rw [xNb (by rw [ee]; exact c3),xLw]
          simp only [xF6] at ih
          by_cases e : xD3 n.states v (n.rl.drop (i + 1)) = 0
          · rw [if_pos e] at ih ⊢
            simp (maxSteps := 30000000) (disch := first | assumption | omega | (simp only [List.length_cons,List.length_nil,List.length_append,List.length_set,List.length_replicate,List.length_map,List.length_range,List.length_take,List.length_drop,List.all_cons,List.all_nil,AV.isCell,Bool.and_self,Bool.and_true,xAh,xAb,xAe,xAa,xAo] <;> omega) | rfl | decide) only [xHC,xAq,xAf,xAc,xAk,xAB,opv,List.getD_cons_succ,List.getD_cons_zero,xAw,hlt,decide_true,xAm,xAr,List.set_cons_succ,List.set_cons_zero,xAi,xAg,xAj,xAd,xAp,xAl,↓reduceIte,xAx,xAs,xAW,xAY,Int.toNat_natCast,xAH,xBn,xDr,xBz,xBv,AV.cells,List.all_cons,AV.isCell,List.all_nil,Bool.and_self,List.length_cons,List.cons_append,xBe,List.length_nil,Nat.zero_add,Nat.reduceAdd,xBJ,List.getElem?_cons_succ,xCy,List.getElem?_cons_zero,xAZ,xBl,List.take_zero,List.nil_append,List.drop_succ_cons,List.drop_nil,List.append_nil,xC1,xAN,xBq,xAQ,xAC,Nat.add_zero,xA1,xAu,List.drop_zero,List.take_succ_cons,xAM,xRA,List.map_cons,List.map_nil,xIK,xIJ,c1,decide_false,xAz,xAK,xAA,xKw,xCj,c2,xA9,xAL,Bool.false_eq_true,List.take_nil,xCh,beq_self_eq_true,xCm,Nat.reduceLeDiff,and_self,Nat.le_refl,Option.map_some,hnv,xBH,xBi,xBP,List.mapM_cons,xCo,xBa,List.mapM_nil,Option.pure_def,Option.bind_eq_bind,Option.bind_some,xBh,hcube,xBg,xDx,xCq,xBy,Bool.not_true,xAt,xBf,xB6,xCQ,xAy,xHD,ih]
          · rw [if_neg e] at ih ⊢
            simp (maxSteps := 30000000) (disch := first | assumption | omega | (simp only [List.length_cons,List.length_nil,List.length_append,List.length_set,List.length_replicate,List.length_map,List.length_range,List.length_take,List.length_drop,List.all_cons,List.all_nil,AV.isCell,Bool.and_self,Bool.and_true,xAh,xAb,xAe,xAa,xAo] <;> omega) | rfl | decide) only [xHC,xAq,xAf,xAc,xAk,xAB,opv,List.getD_cons_succ,List.getD_cons_zero,xAw,hlt,decide_true,xAm,xAr,List.set_cons_succ,List.set_cons_zero,xAi,xAg,xAj,xAd,xAp,xAl,↓reduceIte,xAx,xAs,xAW,xAY,Int.toNat_natCast,xAH,xBn,xDr,xBz,xBv,AV.cells,List.all_cons,AV.isCell,List.all_nil,Bool.and_self,List.length_cons,List.cons_append,xBe,List.length_nil,Nat.zero_add,Nat.reduceAdd,xBJ,List.getElem?_cons_succ,xCy,List.getElem?_cons_zero,xAZ,xBl,List.take_zero,List.nil_append,List.drop_succ_cons,List.drop_nil,List.append_nil,xC1,xAN,xBq,xAQ,xAC,Nat.add_zero,xA1,xAu,List.drop_zero,List.take_succ_cons,xAM,xRA,List.map_cons,List.map_nil,xIK,xIJ,c1,decide_false,xAz,xAK,xAA,xKw,xCj,c2,xA9,xAL,Bool.false_eq_true,List.take_nil,xCh,beq_self_eq_true,xCm,Nat.reduceLeDiff,and_self,Nat.le_refl,Option.map_some,hnv,xBH,xBi,xBP,List.mapM_cons,xCo,xBa,List.mapM_nil,Option.pure_def,Option.bind_eq_bind,Option.bind_some,xBh,hcube,xBg,xDx,xCq,xBy,Bool.not_true,xAt,xBf,xB6,xCQ,xAy,xHD,ih]
        · refine ⟨T ++ [.cells false false (xF6 (n.rl.getD i rl0))],i,?_⟩
          rw [xCV (by rw [ee]; exact c3),ee,if_neg c3,xLw]
          simp (maxSteps := 30000000) (disch := first | assumption | omega | (simp only [List.length_cons,List.length_nil,List.length_append,List.length_set,List.length_replicate,List.length_map,List.length_range,List.length_take,List.length_drop,List.all_cons,List.all_nil,AV.isCell,Bool.and_self,Bool.and_true,xAh,xAb,xAe,xAa,xAo] <;> omega) | rfl | decide) only [xHC,xAq,xAf,xAc,xAk,xAB,opv,List.getD_cons_succ,List.getD_cons_zero,xAw,hlt,decide_true,xAm,xAr,List.set_cons_succ,List.set_cons_zero,xAi,xAg,xAj,xAd,xAp,xAl,↓reduceIte,xAx,xAs,xAW,xAY,Int.toNat_natCast,xAH,xBn,xDr,xBz,xBv,AV.cells,List.all_cons,AV.isCell,List.all_nil,Bool.and_self,List.length_cons,List.cons_append,xBe,List.length_nil,Nat.zero_add,Nat.reduceAdd,xBJ,List.getElem?_cons_succ,xCy,List.getElem?_cons_zero,xAZ,xBl,List.take_zero,List.nil_append,List.drop_succ_cons,List.drop_nil,List.append_nil,xC1,xAN,xBq,xAQ,xAC,Nat.add_zero,xA1,xAu,List.drop_zero,List.take_succ_cons,xAM,xRA,List.map_cons,List.map_nil,xIK,xIJ,c1,decide_false,xAz,xAK,xAA,xKw,xCj,c2,xA9,xAL,Bool.false_eq_true,List.take_nil,xCh,beq_self_eq_true,xCm,Nat.reduceLeDiff,and_self,Nat.le_refl,Option.map_some,hnv,xBH,xBi,xBP,List.mapM_cons,xCo,xBa,List.mapM_nil,Option.pure_def,Option.bind_eq_bind,Option.bind_some,xBh,hcube,xBg,xDx,xCq,xBy,c3,Bool.not_false,xA0,xA8,xBb,xBK,xHD,xF6]

def xNc (n : Aut) : Int :=
  if n.vars < 0 ∨ 3 < n.vars then 7 else if n.states < 0 then 1 else if 64 < n.states ∨ 512 < n.rl.length then 4
  else if xDE n.states n.st = 0 ∧ xDE n.states n.fi = 0 then xD3 n.states n.vars.toNat n.rl else 8

set_option maxHeartbeats 4000000 in
theorem xH4 (n : Aut) (h1 : n.st.length < 1099511627776) (h2 : n.fi.length < 1099511627776) (h3 : n.rl.length < 1099511627776) (hb : ∀ e ∈ n.rl,e.p < 256 ∧ e.n < 256) : L.pcall 45 [n.av] = some (.int .i64 (xNc n)) := by
  have e5 : ((512 : Int) < (n.rl.length : Nat)) = (512 < n.rl.length) := propext ⟨fun h => by omega,fun h => by omega⟩
  unfold xNc
  rw [yEm,a45,xBA]
  by_cases c1 : n.vars < 0
  · rw [if_pos (.inl c1)]
    simp (maxSteps := 30000000) (disch := first | assumption | omega | (simp only [List.length_cons,List.length_nil,List.length_append,List.length_set,List.length_replicate,List.length_map,List.length_range,List.length_take,List.length_drop,List.all_cons,List.all_nil,AV.isCell,Bool.and_self,Bool.and_true,xAh,xAb,xAe,xAa,xAo] <;> omega) | rfl | decide) only [xAT,List.length_cons,List.length_nil,Nat.zero_add,Nat.reduceSub,xCF,List.cons_append,List.nil_append,xAq,xAf,xAc,xAk,xBv,AV.cells,opv,List.getD_cons_zero,List.all_cons,AV.isCell,List.all_nil,Bool.and_self,↓reduceIte,xAr,List.set_cons_succ,List.set_cons_zero,xAi,xAz,xAg,xAj,xAd,xAs,xAQ,List.getD_cons_succ,xAC,Nat.add_zero,xAm,xAH,xA1,List.getElem?_cons_zero,xAu,List.drop_zero,List.take_succ_cons,List.take_zero,xAM,xAB,xAw,c1,decide_true,xAK,xAA,Bool.true_eq_false,xCc,xA9,xAL,xAp,xAl,xA0,xA8,xBb,xAP,xAV,xBk,xAD,xAS,xBP,xBa]
  · by_cases c2 : 3 < n.vars
    · rw [if_pos (.inr c2)]
      simp (maxSteps := 30000000) (disch := first | assumption | omega | (simp only [List.length_cons,List.length_nil,List.length_append,List.length_set,List.length_replicate,List.length_map,List.length_range,List.length_take,List.length_drop,List.all_cons,List.all_nil,AV.isCell,Bool.and_self,Bool.and_true,xAh,xAb,xAe,xAa,xAo] <;> omega) | rfl | decide) only [xAT,List.length_cons,List.length_nil,Nat.zero_add,Nat.reduceSub,xCF,List.cons_append,List.nil_append,xAq,xAf,xAc,xAk,xBv,AV.cells,opv,List.getD_cons_zero,List.all_cons,AV.isCell,List.all_nil,Bool.and_self,↓reduceIte,xAr,List.set_cons_succ,List.set_cons_zero,xAi,xAz,xAg,xAj,xAd,xAs,xAQ,List.getD_cons_succ,xAC,Nat.add_zero,xAm,xAH,xA1,List.getElem?_cons_zero,xAu,List.drop_zero,List.take_succ_cons,List.take_zero,xAM,xAB,xAw,c1,decide_false,xAK,xAA,xBS,c2,decide_true,xA9,xAL,Bool.false_eq_true,xAp,xAl,xA0,xA8,xBb,xAP,xAV,xBk,xAD,xAS,xBP,xBa]
    · rw [if_neg (by omega)]
      by_cases c3 : n.states < 0
      · rw [if_pos c3]
        simp (maxSteps := 30000000) (disch := first | assumption | omega | (simp only [List.length_cons,List.length_nil,List.length_append,List.length_set,List.length_replicate,List.length_map,List.length_range,List.length_take,List.length_drop,List.all_cons,List.all_nil,AV.isCell,Bool.and_self,Bool.and_true,xAh,xAb,xAe,xAa,xAo] <;> omega) | rfl | decide) only [xAT,List.length_cons,List.length_nil,Nat.zero_add,Nat.reduceSub,xCF,List.cons_append,List.nil_append,xAq,xAf,xAc,xAk,xBv,AV.cells,opv,List.getD_cons_zero,List.all_cons,AV.isCell,List.all_nil,Bool.and_self,↓reduceIte,xAr,List.set_cons_succ,List.set_cons_zero,xAi,xAz,xAg,xAj,xAd,xAs,xAQ,List.getD_cons_succ,xAC,Nat.add_zero,xAm,xAH,xA1,List.getElem?_cons_zero,xAu,List.drop_zero,List.take_succ_cons,List.take_zero,xAM,xAB,xAw,c1,decide_false,xAK,xAA,xBS,c2,xA9,xAL,Bool.false_eq_true,xAp,xAl,List.drop_succ_cons,c3,decide_true,xA0,xA8,xBb,xAP,xAV,xBk,xAD,xAS,xBP,xBa]
      · rw [if_neg c3]
        by_cases c4 : 64 < n.states
        · rw [if_pos (.inl c4)]
          simp (maxSteps := 30000000) (disch := first | assumption | omega | (simp only [List.length_cons,List.length_nil,List.length_append,List.length_set,List.length_replicate,List.length_map,List.length_range,List.length_take,List.length_drop,List.all_cons,List.all_nil,AV.isCell,Bool.and_self,Bool.and_true,xAh,xAb,xAe,xAa,xAo] <;> omega) | rfl | decide) only [xAT,List.length_cons,List.length_nil,Nat.zero_add,Nat.reduceSub,xCF,List.cons_append,List.nil_append,xAq,xAf,xAc,xAk,xBv,AV.cells,opv,List.getD_cons_zero,List.all_cons,AV.isCell,List.all_nil,Bool.and_self,↓reduceIte,xAr,List.set_cons_succ,List.set_cons_zero,xAi,xAz,xAg,xAj,xAd,xAs,xAQ,List.getD_cons_succ,xAC,Nat.add_zero,xAm,xAH,xA1,List.getElem?_cons_zero,xAu,List.drop_zero,List.take_succ_cons,List.take_zero,xAM,xAB,xAw,c1,decide_false,xAK,xAA,xBS,c2,xA9,xAL,Bool.false_eq_true,xAp,xAl,List.drop_succ_cons,c3,c4,decide_true,Bool.true_eq_false,xCc,xA0,xA8,xBb,xAP,xAV,xBk,xAD,xAS,xBP,xBa]
        · by_cases c5 : 512 < n.rl.length
          · rw [if_pos (.inr c5)]
            simp (maxSteps := 30000000) (disch := first | assumption | omega | (simp only [List.length_cons,List.length_nil,List.length_append,List.length_set,List.length_replicate,List.length_map,List.length_range,List.length_take,List.length_drop,List.all_cons,List.all_nil,AV.isCell,Bool.and_self,Bool.and_true,xAh,xAb,xAe,xAa,xAo] <;> omega) | rfl | decide) only [xAT,List.length_cons,List.length_nil,Nat.zero_add,Nat.reduceSub,xCF,List.cons_append,List.nil_append,xAq,xAf,xAc,xAk,xBv,AV.cells,opv,List.getD_cons_zero,List.all_cons,AV.isCell,List.all_nil,Bool.and_self,↓reduceIte,xAr,List.set_cons_succ,List.set_cons_zero,xAi,xAz,xAg,xAj,xAd,xAs,xAQ,List.getD_cons_succ,xAC,Nat.add_zero,xAm,xAH,xA1,List.getElem?_cons_zero,xAu,List.drop_zero,List.take_succ_cons,List.take_zero,xAM,xAB,xAw,c1,decide_false,xAK,xAA,xBS,c2,xA9,xAL,Bool.false_eq_true,xAp,xAl,List.drop_succ_cons,c3,c4,List.take_nil,xA3,xA4,e5,c5,decide_true,xA0,xA8,xBb,xAP,xAV,xBk,xAD,xAS,xBP,xBa]
          · rw [if_neg (by omega)]
            obtain ⟨i',g⟩ := xP5 n (s2 := .int .i64 0) h1 h2
            by_cases c6 : xDE n.states n.st = 0 ∧ xDE n.states n.fi = 0
            · rw [if_pos c6] at g ⊢
              obtain ⟨v,hv⟩ : ∃ v : Nat,n.vars = (v : Nat) := ⟨n.vars.toNat,by omega⟩
              have htv : n.vars.toNat = v := by omega
              obtain ⟨T',i2,g2⟩ := xKk (n := n) (v := v) (s2 := .int .i64 0) (by omega) hv h3 hb n.rl.length 0 [] (by omega)
              simp only [Int.natCast_zero,List.drop_zero] at g2
              rw [htv]
              by_cases c7 : xD3 n.states v n.rl = 0
              · rw [if_pos c7] at g2
                rw [c7]
                simp (maxSteps := 30000000) (disch := first | assumption | omega | (simp only [List.length_cons,List.length_nil,List.length_append,List.length_set,List.length_replicate,List.length_map,List.length_range,List.length_take,List.length_drop,List.all_cons,List.all_nil,AV.isCell,Bool.and_self,Bool.and_true,xAh,xAb,xAe,xAa,xAo] <;> omega) | rfl | decide) only [xAT,List.length_cons,List.length_nil,Nat.zero_add,Nat.reduceSub,xCF,List.cons_append,List.nil_append,xAq,xAf,xAc,xAk,xBv,AV.cells,opv,List.getD_cons_zero,List.all_cons,AV.isCell,List.all_nil,Bool.and_self,↓reduceIte,xAr,List.set_cons_succ,List.set_cons_zero,xAi,xAz,xAg,xAj,xAd,xAs,xAQ,List.getD_cons_succ,xAC,Nat.add_zero,xAm,xAH,xA1,List.getElem?_cons_zero,xAu,List.drop_zero,List.take_succ_cons,List.take_zero,xAM,xAB,xAw,c1,decide_false,xAK,xAA,xBS,c2,xA9,xAL,Bool.false_eq_true,xAp,xAl,List.drop_succ_cons,c3,c4,List.take_nil,xA3,xA4,e5,c5,xAx,xAt,xCh,beq_self_eq_true,List.map_cons,List.map_nil,xCm,Nat.reduceAdd,Nat.reduceLeDiff,and_self,xBl,Nat.le_refl,List.drop_nil,List.append_nil,Option.map_some,xA7,xGE,g,xAR,xHD,g2,xA0,xAP,xAV,xBk,xAD,xAS,xBP,xBa]
              · rw [if_neg c7] at g2
                simp (maxSteps := 30000000) (disch := first | assumption | omega | (simp only [List.length_cons,List.length_nil,List.length_append,List.length_set,List.length_replicate,List.length_map,List.length_range,List.length_take,List.length_drop,List.all_cons,List.all_nil,AV.isCell,Bool.and_self,Bool.and_true,xAh,xAb,xAe,xAa,xAo] <;> omega) | rfl | decide) only [xAT,List.length_cons,List.length_nil,Nat.zero_add,Nat.reduceSub,xCF,List.cons_append,List.nil_append,xAq,xAf,xAc,xAk,xBv,AV.cells,opv,List.getD_cons_zero,List.all_cons,AV.isCell,List.all_nil,Bool.and_self,↓reduceIte,xAr,List.set_cons_succ,List.set_cons_zero,xAi,xAz,xAg,xAj,xAd,xAs,xAQ,List.getD_cons_succ,xAC,Nat.add_zero,xAm,xAH,xA1,List.getElem?_cons_zero,xAu,List.drop_zero,List.take_succ_cons,List.take_zero,xAM,xAB,xAw,c1,decide_false,xAK,xAA,xBS,c2,xA9,xAL,Bool.false_eq_true,xAp,xAl,List.drop_succ_cons,c3,c4,List.take_nil,xA3,xA4,e5,c5,xAx,xAt,xCh,beq_self_eq_true,List.map_cons,List.map_nil,xCm,Nat.reduceAdd,Nat.reduceLeDiff,and_self,xBl,Nat.le_refl,List.drop_nil,List.append_nil,Option.map_some,xA7,xGE,g,xAR,xHD,g2,xA8,xBb,xAP,xAV,xBk,xAD,xAS,xBP,xBa]
            · rw [if_neg c6] at g ⊢
              simp (maxSteps := 30000000) (disch := first | assumption | omega | (simp only [List.length_cons,List.length_nil,List.length_append,List.length_set,List.length_replicate,List.length_map,List.length_range,List.length_take,List.length_drop,List.all_cons,List.all_nil,AV.isCell,Bool.and_self,Bool.and_true,xAh,xAb,xAe,xAa,xAo] <;> omega) | rfl | decide) only [xAT,List.length_cons,List.length_nil,Nat.zero_add,Nat.reduceSub,xCF,List.cons_append,List.nil_append,xAq,xAf,xAc,xAk,xBv,AV.cells,opv,List.getD_cons_zero,List.all_cons,AV.isCell,List.all_nil,Bool.and_self,↓reduceIte,xAr,List.set_cons_succ,List.set_cons_zero,xAi,xAz,xAg,xAj,xAd,xAs,xAQ,List.getD_cons_succ,xAC,Nat.add_zero,xAm,xAH,xA1,List.getElem?_cons_zero,xAu,List.drop_zero,List.take_succ_cons,List.take_zero,xAM,xAB,xAw,c1,decide_false,xAK,xAA,xBS,c2,xA9,xAL,Bool.false_eq_true,xAp,xAl,List.drop_succ_cons,c3,c4,List.take_nil,xA3,xA4,e5,c5,xAx,xAt,xCh,beq_self_eq_true,List.map_cons,List.map_nil,xCm,Nat.reduceAdd,Nat.reduceLeDiff,and_self,xBl,Nat.le_refl,List.drop_nil,List.append_nil,Option.map_some,xA7,xGE,g,xA8,xBb,xAP,xAV,xBk,xAD,xAS,xBP,xBa]
end Go.Abs.Det

/- The tree's Check,words of states. -/
namespace Go.Abs.Det
open Go Go.Abs
set_option linter.unusedSimpArgs false
set_option linter.unusedVariables false

def xDA (a : Nat) : List Int → Nat
  | [] => a
  | q :: l => xDA (a ||| 2 ^ q.toNat) l

theorem xXQ {v : Nat} (hv : v < 64) : IntKind.u64.wrap (1 * 2 ^ min v IntKind.u64.bits) = ((2 ^ v : Nat) : Int) := by
  have e1 : min v IntKind.u64.bits = v := Nat.min_eq_left (by show v ≤ 64; omega)
  have e2 : (2 : Nat) ^ v < 2 ^ 64 := Nat.pow_lt_pow_right (by omega) hv
  rw [e1,Int.one_mul,show (2 : Int) ^ v = ((2 ^ v : Nat) : Int) from by rw [Int.natCast_pow]; rfl]
  exact xXO (by omega)
theorem xSH {v : Nat} (hv : v < 64) : 2 ^ v < 18446744073709551616 := Nat.pow_lt_pow_right (m := v) (n := 64) (a := 2) (by omega) hv

theorem xNd : ∀ (l : List Int) (a j : Nat),(∀ q ∈ l,0 ≤ q) → (xDA a l).testBit j = (a.testBit j || l.contains (j : Int))
  | [],a,j,h => by simp [xDA]
  | q :: l,a,j,h => by
    have h0 := h q (List.mem_cons_self ..)
    have e : decide (q.toNat = j) = ((j : Int) == q) := by
      rw [Bool.eq_iff_iff]; simp only [decide_eq_true_eq,beq_iff_eq]; omega
    rw [xDA,xNd l _ j (fun q hq => h q (List.mem_cons_of_mem _ hq)),Nat.testBit_or,Nat.testBit_two_pow,List.contains_cons,e,Bool.or_assoc]
theorem xKX : ∀ (l : List Int) (a : Nat),a < 18446744073709551616 → (∀ q ∈ l,0 ≤ q ∧ q < 64) → xDA a l < 18446744073709551616
  | [],a,ha,h => ha
  | q :: l,a,ha,h => by
    have h0 := h q (List.mem_cons_self ..)
    exact xKX l _ (xSF ha (xSH (by omega))) (fun q hq => h q (List.mem_cons_of_mem _ hq))
end Go.Abs.Det

/- The rules' loop of states,the stack. -/
namespace Go.Abs.Det
open Go Go.Abs
set_option linter.unusedSimpArgs false
set_option linter.unusedVariables false

theorem yCK {l : Nat} (hl : l < 18446744073709551616) (u : Nat) : xFh .and .u64 ((l >>> u : Nat) : Int) 1 = if l.testBit u = true then 1 else 0 := by
  have h1 : l >>> u < 18446744073709551616 := Nat.lt_of_le_of_lt (by rw [Nat.shiftRight_eq_div_pow]; exact Nat.div_le_self ..) hl
  have h := xXP h1 (show 1 < 18446744073709551616 by omega)
  rw [show ((1 : Nat) : Int) = 1 from rfl] at h
  rw [h,Nat.and_one_is_mod]
  have ht : l.testBit u = decide ((l >>> u) % 2 = 1) := by
    rw [Nat.testBit_eq_decide_div_mod_eq,Nat.shiftRight_eq_div_pow]
  rw [ht]
  by_cases c : (l >>> u) % 2 = 1
  · rw [c]; simp
  · have : (l >>> u) % 2 = 0 := by omega
    rw [this]; simp

def hit (l r x : Nat) (u : Rl) : Bool := l.testBit u.l.toNat && r.testBit u.r.toNat && xQk u.p u.n x
def toM (l r x : Nat) (a : Nat) : List Rl → Nat
  | [] => a
  | u :: t => toM l r x (if hit l r x u = true then a ||| 2 ^ u.t.toNat else a) t

def xQl (l : List Rl) : Prop := ∀ e ∈ l,(0 ≤ e.l ∧ e.l < 64) ∧ (0 ≤ e.r ∧ e.r < 64) ∧ (0 ≤ e.t ∧ e.t < 64) ∧ e.p < 256 ∧ e.n < 256

theorem xVO (l r x : Nat) : ∀ (t : List Rl) (a : Nat),a < 18446744073709551616 → xQl t → toM l r x a t < 18446744073709551616
  | [],a,h,_ => h
  | u :: t,a,h,hb => by
    have hu := hb u (List.mem_cons_self ..)
    refine xVO l r x t _ ?_ (fun e he => hb e (List.mem_cons_of_mem _ he))
    split
    · exact xSF h (xSH (by omega))
    · exact h

theorem xN0 (l r x : Nat) : ∀ (t : List Rl) (a j : Nat),(∀ e ∈ t,0 ≤ e.t) → (toM l r x a t).testBit j = (a.testBit j || t.any (fun u => hit l r x u && decide (u.t = (j : Int))))
  | [],a,j,_ => by simp [toM]
  | u :: t,a,j,hb => by
    have hu := hb u (List.mem_cons_self ..)
    rw [toM,xN0 l r x t _ j (fun e he => hb e (List.mem_cons_of_mem _ he)),List.any_cons,← Bool.or_assoc]
    congr 1
    by_cases c : hit l r x u = true
    · have e : decide (u.t.toNat = j) = decide (u.t = (j : Int)) := by
        rw [Bool.eq_iff_iff]; simp only [decide_eq_true_eq]; omega
      rw [if_pos c,c,Nat.testBit_or,Nat.testBit_two_pow,Bool.true_and,e]
    · rw [if_neg c]
      simp [c]

section
variable {s1 s2 s5 s6 s7 s8 : AV}
end

def OwnG (G : xAv) (v : AV) (l : List Nat) : Prop := (v = .sl true 0 [] ∧ l = []) ∨ ∃ k r,2 < k ∧ v = .own false k 0 l.length 1 ∧ G[k]? = some (.cells false false (w64 (l ++ r)))
theorem OwnG.app {G : xAv} {v : AV} {l : List Nat} (h : OwnG G v l) (X : xAv) : OwnG (G ++ X) v l := by
  rcases h with h | ⟨k,r,e0,e1,e2⟩
  · exact .inl h
  · exact .inr ⟨k,r,e0,e1,xBQ e2⟩

end Go.Abs.Det

/- states: the nodes' loop. -/
namespace Go.Abs.Det
open Go Go.Abs
set_option linter.unusedSimpArgs false
set_option linter.unusedVariables false

def Pop (E : Nat) (c : Int) (st : List Nat) (v : Nat) (st' : List Nat) : Prop := c < 0 ∧ v = E ∧ st = st' ∨ ¬ c < 0 ∧ st = st' ++ [v]

structure InvA (n : Aut) (E : Nat) (G : xAv) (st : List Nat) : Prop where
  g0 : G[0]? = some (.cells false false n.cells)
  g1 : G[1]? = some (.cells false false [.int .u64 (E : Nat)])
  own : ∃ v,G[2]? = some (.cells false false [v]) ∧ OwnG G v st
theorem InvA.app {n : Aut} {E : Nat} {G : xAv} {st : List Nat} (h : InvA n E G st) (X : xAv) : InvA n E (G ++ X) st := by
  obtain ⟨v,h2,h3⟩ := h.own
  exact ⟨xBQ h.g0,xBQ h.g1,v,xBQ h2,h3.app X⟩

end Go.Abs.Det

/- states,set. -/
namespace Go.Abs.Det
open Go Go.Abs
set_option linter.unusedSimpArgs false
set_option linter.unusedVariables false

theorem Pop.len {E : Nat} {c : Int} {st st' : List Nat} {v : Nat} (h : Pop E c st v st') : st'.length ≤ st.length := by
  rcases h with ⟨_,_,h⟩ | ⟨_,h⟩
  · rw [h]; omega
  · rw [h]; simp

end Go.Abs.Det

/- both,States,Accepts. -/
namespace Go.Abs.Det
open Go Go.Abs
set_option linter.unusedSimpArgs false
set_option linter.unusedVariables false

structure TyA (n : Aut) : Prop where
  st : n.st.length < 1099511627776
  fi : n.fi.length < 1099511627776
  rl : n.rl.length < 1099511627776
  u8 : ∀ e ∈ n.rl,e.p < 256 ∧ e.n < 256

structure Valid (n : Aut) : Prop where
  v0 : 0 ≤ n.vars
  v3 : n.vars ≤ 3
  s0 : 0 ≤ n.states
  s64 : n.states ≤ 64
  rl : n.rl.length ≤ 512
  st : xHR n.states (-1) n.st = true
  fi : xHR n.states (-1) n.fi = true
  ru : xD3 n.states n.vars.toNat n.rl = 0

theorem chkE_zero {n : Aut} : xNc n = 0 ↔ Valid n := by
  have g : ∀ l,xDE n.states l = 0 ↔ xHR n.states (-1) l = true := fun l => by unfold xDE; split <;> simp_all
  unfold xNc
  constructor
  · intro h
    split at h
    · omega
    · split at h
      · omega
      · split at h
        · omega
        · split at h
          · rename_i c1 c2 c3 c4
            exact ⟨by omega,by omega,by omega,by omega,by omega,(g _).1 c4.1,(g _).1 c4.2,h⟩
          · omega
  · rintro ⟨v0,v3,s0,s64,rl,st,fi,ru⟩
    rw [if_neg (by omega),if_neg (by omega),if_neg (by omega),if_pos ⟨(g _).2 st,(g _).2 fi⟩,ru]

theorem xFW {s : Int} : ∀ {l : List Int} {last : Int},xHR s last l = true → ∀ q ∈ l,last < q ∧ q < s
  | [],_,_,q,h => by simp at h
  | a :: t,last,h,q,hq => by
    unfold xHR at h
    split at h
    · cases h
    · rcases List.mem_cons.1 hq with rfl | hq
      · omega
      · have := xFW h q hq
        omega

theorem xKl {s : Int} {v : Nat} : ∀ {l : List Rl},xD3 s v l = 0 → ∀ e ∈ l,xHT s v e = 0
  | [],_,e,h => by simp at h
  | a :: t,h,e,he => by
    unfold xD3 at h
    split at h
    · rcases List.mem_cons.1 he with rfl | he
      · assumption
      · exact xKl h e he
    · contradiction

theorem Valid.sts {n : Aut} (h : Valid n) : ∀ q ∈ n.st,0 ≤ q ∧ q < 64 := fun q hq => by
  have := xFW h.st q hq
  have := h.s64
  omega
theorem Valid.fis {n : Aut} (h : Valid n) : ∀ q ∈ n.fi,0 ≤ q ∧ q < 64 := fun q hq => by
  have := xFW h.fi q hq
  have := h.s64
  omega
theorem Valid.rule {n : Aut} (h : Valid n) : ∀ e ∈ n.rl,(0 ≤ e.l ∧ e.l < n.states) ∧ (0 ≤ e.r ∧ e.r < n.states) ∧ (0 ≤ e.t ∧ e.t < n.states) := fun e he => by
  have h1 := xKl h.ru e he
  unfold xHT at h1
  split at h1
  · omega
  · omega
theorem Valid.ok {n : Aut} (h : Valid n) (hT : TyA n) : xQl n.rl := fun e he => by
  have h1 := h.rule e he
  have h2 := h.s64
  have h3 := hT.u8 e he
  omega

end Go.Abs.Det

/- formed,Check and both,exactly; States and Accepts with the exact error. -/
namespace Go.Abs.Det
open Go Go.Abs
set_option linter.unusedSimpArgs false
set_option linter.unusedVariables false

end Go.Abs.Det

/- Copies,small. -/
namespace Go.Abs.Det
open Go Go.Abs
set_option linter.unusedSimpArgs false
set_option linter.unusedVariables false

theorem xXR (l : List Rl) : (rls l).all xCA = true := by
  induction l with
  | nil => rfl
  | cons e l ih =>
    have : rls (e :: l) = xF6 e ++ rls l := rfl
    rw [this,List.all_append,ih]; rfl
theorem xXS (d : Nat) (H : xAv) (l : List Rl) : (rls l).mapM (frz d H) = some (rls l) := by
  induction l with
  | nil => rfl
  | cons e l ih =>
    have : rls (e :: l) = .int .i64 e.l :: .int .i64 e.r :: .int .i64 e.t :: .int .u8 (e.p : Nat) :: .int .u8 (e.n : Nat) :: rls l := rfl
    rw [this]
    simp only [List.mapM_cons,xBa,ih]
    rfl
theorem xPe (z : Bool) (l : List Int) (hl : l.length < 1099511627776) : L.pcall 47 [iw z l] = some (iw (l.length == 0) l) := by
  rw [yEn,a47,xBA]
  simp (maxSteps := 30000000) (disch := first | assumption | omega | (simp only [List.length_cons,List.length_nil,List.length_append,List.length_set,List.length_replicate,List.length_map,List.length_range,List.length_take,List.length_drop,List.all_cons,List.all_nil,AV.isCell,Bool.and_self,Bool.and_true,xAh,xAb,xAe,xAa,xDe,xAo] <;> omega) | rfl | decide) only [xAT,List.length_cons,List.length_nil,Nat.zero_add,Nat.reduceSub,xCF,List.cons_append,List.nil_append,xAq,xAf,xAc,xAk,xAz,opv,xAr,List.set_cons_succ,List.set_cons_zero,xAi,xAg,xAj,xAd,List.getD_cons_zero,xBZ,List.getD_cons_succ,xDs,xEq,xC8,xA0,xAP,xAV,xBk,xAD,xAS,xBP,xEz,List.getElem?_cons_zero,xCW,Nat.mul_one,List.drop_zero,xBR,List.take_length,xPb,xCi]
theorem xXT (z : Bool) (l : List Rl) (hl : l.length < 1099511627776) : L.pcall 108 [.sl z l.length (rls l)] = some (.sl (l.length == 0) l.length (rls l)) := by
  have htk : List.take (l.length * 5) (rls l) = rls l := List.take_of_length_le (by rw [xAo]; omega)
  rw [yBI,xYT,xBA]
  simp (maxSteps := 30000000) (disch := first | assumption | omega | (simp only [List.length_cons,List.length_nil,List.length_append,List.length_set,List.length_replicate,List.length_map,List.length_range,List.length_take,List.length_drop,List.all_cons,List.all_nil,AV.isCell,Bool.and_self,Bool.and_true,xAh,xAb,xAe,xAa,xDe,xAo] <;> omega) | rfl | decide) only [xAT,List.length_cons,List.length_nil,Nat.zero_add,Nat.reduceSub,xCF,List.cons_append,List.nil_append,xAq,xAf,xAc,xAk,xAz,opv,xAr,List.set_cons_succ,List.set_cons_zero,xAi,xAg,xAj,xAd,List.getD_cons_zero,xBZ,List.getD_cons_succ,xDs,xEq,xC8,xA0,xAP,xAV,xBk,xAD,xAS,xBP,xEz,List.getElem?_cons_zero,xCW,List.drop_zero,htk,xXS,xCi]

theorem xUE (z : Bool) (l : List Rl) (hl : l.length < 1099511627776) : xD2 L 108 [.sl z l.length (rls l)] = some (.own (l.length == 0) 0 0 l.length 5,[.cells false (l.length == 0) (rls l)]) := by
  have htk : List.take (l.length * 5) (rls l) = rls l := List.take_of_length_le (by rw [xAo]; omega)
  rw [xGL,yBJ,xYT,xAT]
  simp (maxSteps := 30000000) (disch := first | assumption | omega | (simp only [List.length_cons,List.length_nil,List.length_append,List.length_set,List.length_replicate,List.length_map,List.length_range,List.length_take,List.length_drop,List.all_cons,List.all_nil,AV.isCell,Bool.and_self,Bool.and_true,xAh,xAb,xAe,xAa,xDe,xAo] <;> omega) | rfl | decide) only [List.append_nil,List.length_cons,List.length_nil,Nat.zero_add,Nat.reduceSub,xCF,List.cons_append,List.nil_append,xAq,xAf,xAc,xAk,xAz,opv,xAr,List.set_cons_succ,List.set_cons_zero,xAi,xAg,xAj,xAd,List.getD_cons_zero,xBZ,List.getD_cons_succ,xDs,xEq,xC8,xA0,xAP,xAV,xBk,xAD,xGo,xGp,xMq,List.getElem?_cons_zero,xMr,xRv,xXR,↓reduceIte,Option.map_some,List.map_cons,List.map_nil]

theorem xSI (z : Bool) (l : List Int) (hl : l.length < 1099511627776) : xD2 L 47 [iw z l] = some (.own (l.length == 0) 0 0 l.length 1,[.cells false (l.length == 0) (ints l)]) := by
  have htk : List.take l.length l = l := List.take_length
  rw [xGL,yEo,a47,xAT]
  simp (maxSteps := 30000000) (disch := first | assumption | omega | (simp only [List.length_cons,List.length_nil,List.length_append,List.length_set,List.length_replicate,List.length_map,List.length_range,List.length_take,List.length_drop,List.all_cons,List.all_nil,AV.isCell,Bool.and_self,Bool.and_true,xAh,xAb,xAe,xAa,xDe,xAo] <;> omega) | rfl | decide) only [List.append_nil,List.length_cons,List.length_nil,Nat.zero_add,Nat.reduceSub,xCF,List.cons_append,List.nil_append,xAq,xAf,xAc,xAk,xAz,opv,xAr,List.set_cons_succ,List.set_cons_zero,xAi,xAg,xAj,xAd,List.getD_cons_zero,xBZ,List.getD_cons_succ,xDs,xEq,xC8,xA0,xAP,xAV,xBk,xAD,xGo,xGp,xMq,List.getElem?_cons_zero,xMr,xRv,xUD,↓reduceIte,Option.map_some,List.map_cons,List.map_nil]

abbrev cpA (n : Aut) : Aut := ⟨n.vars,n.states,n.st.length == 0,n.st,n.fi.length == 0,n.fi,n.rl.length == 0,n.rl⟩
theorem yAc (n : Aut) (h1 : n.st.length < 1099511627776) (h2 : n.fi.length < 1099511627776) (h3 : n.rl.length < 1099511627776) : L.pcall 72 [n.av] = some (cpA n).av := by
  have k1 := xPe n.z1 n.st h1
  have k2 := xPe n.z2 n.fi h2
  have k3 := xXT n.z3 n.rl h3
  have k4 := xUE n.z3 n.rl h3
  have htk : List.take (n.rl.length * 5) (rls n.rl) = rls n.rl := List.take_of_length_le (by rw [xAo]; omega)
  have k5 := xSI n.z1 n.st h1
  have k6 := xSI n.z2 n.fi h2
  have t1 : List.take n.st.length n.st = n.st := List.take_length
  have t2 : List.take n.fi.length n.fi = n.fi := List.take_length
  rw [yEt,a72,xBA]
  simp (maxSteps := 30000000) (disch := first | assumption | omega | (simp only [List.length_cons,List.length_nil,List.length_append,List.length_set,List.length_replicate,List.length_map,List.length_range,List.length_take,List.length_drop,List.all_cons,List.all_nil,AV.isCell,Bool.and_self,Bool.and_true,xAh,xAb,xAe,xAa,xDe,xAo] <;> omega) | rfl | decide) only [xAT,List.length_cons,List.length_nil,Nat.zero_add,Nat.reduceSub,xCF,List.cons_append,List.nil_append,xAq,xAf,xAc,xAk,xBv,AV.cells,opv,List.getD_cons_zero,List.all_cons,AV.isCell,List.all_nil,Bool.and_self,↓reduceIte,xAr,List.set_cons_succ,List.set_cons_zero,xAi,xAg,xAj,xAd,xBt,List.take_succ_cons,List.take_zero,xAU,xA5,xCw,xAQ,List.getD_cons_succ,xAC,Nat.add_zero,xAm,xBj,xBp,xBd,xBE,xAH,xA1,List.getElem?_cons_zero,xAu,List.drop_zero,xAM,List.drop_succ_cons,xNy,List.map_cons,List.map_nil,xBi,xBP,List.mapM_cons,xB0,List.mapM_nil,Option.pure_def,Option.bind_eq_bind,Option.bind_some,xBh,k1,xBg,xDx,xCq,Bool.false_eq_true,xCE,List.flatMap_cons,xDP,List.flatMap_nil,List.append_nil,List.foldl_nil,xEW,xDn,Bool.or_true,k2,List.take_nil,k3,xA2,xBc,xCf,xBo,xCh,beq_self_eq_true,xCm,Nat.reduceAdd,Nat.reduceLeDiff,and_self,xBl,Nat.le_refl,List.drop_nil,Option.map_some,xBe,xBJ,List.getElem?_cons_succ,xAZ,xAN,xBq,xA0,xAP,xAV,xC9,xCz,xFm,xAD,xAS,xCo,xBa]

end Go.Abs.Det

/- The law's automaton: small. -/
namespace Go.Abs.Det
open Go Go.Abs
set_option linter.unusedSimpArgs false
set_option linter.unusedVariables false

abbrev smA (n : Aut) : Aut := ⟨n.vars,n.states,n.z1,n.st.take 70,n.z2,n.fi.take 70,n.z3,n.rl.take 60⟩
theorem xXU (n : Aut) : L.pcall 36 [n.av] = some (cpA (smA n)).av := by
  have h := yAc (smA n) (by simp; omega) (by simp; omega) (by simp; omega)
  have e1 : min ((n.st.length : Nat) : Int) 70 = ((n.st.take 70).length : Nat) := by rw [List.length_take]; omega
  have e2 : min ((n.fi.length : Nat) : Int) 70 = ((n.fi.take 70).length : Nat) := by rw [List.length_take]; omega
  have e3 : min ((n.rl.length : Nat) : Int) 60 = ((n.rl.take 60).length : Nat) := by rw [List.length_take]; omega
  have t1 : List.take (n.st.take 70).length n.st = n.st.take 70 := xKW ..
  have t2 : List.take (n.fi.take 70).length n.fi = n.fi.take 70 := xKW ..
  have t3 : List.take ((n.rl.take 60).length * 5) (rls n.rl) = rls (n.rl.take 60) := by
    unfold rls
    rw [xNa (enc := xF6) (k := 5) (fun _ => rfl)]
    rw [xKW]
  have l1 : (n.st.take 70).length ≤ n.st.length := by rw [List.length_take]; omega
  have l2 : (n.fi.take 70).length ≤ n.fi.length := by rw [List.length_take]; omega
  have l3 : (n.rl.take 60).length ≤ n.rl.length := by rw [List.length_take]; omega
  have c1 : (n.st.take 70).length ≤ 70 := by rw [List.length_take]; omega
  have c2 : (n.fi.take 70).length ≤ 70 := by rw [List.length_take]; omega
  have c3 : (n.rl.take 60).length ≤ 60 := by rw [List.length_take]; omega
  dsimp only [smA,cpA,Aut.av,Aut.cells,iw] at h ⊢
  generalize n.st.take 70 = st at *
  generalize n.fi.take 70 = fi at *
  generalize n.rl.take 60 = rl at *
  rw [yEl,a36,xBA]
  simp (maxSteps := 30000000) (disch := first | assumption | omega | (simp only [List.length_cons,List.length_nil,List.length_append,List.length_set,List.length_replicate,List.length_map,List.length_range,List.length_take,List.length_drop,List.all_cons,List.all_nil,AV.isCell,Bool.and_self,Bool.and_true,xAh,xAb,xAe,xAa,xDe,xAo] <;> omega) | rfl | decide) only [xAT,List.length_cons,List.length_nil,Nat.zero_add,Nat.reduceSub,xCF,List.cons_append,List.nil_append,xAq,xAf,xAc,xAk,xBv,AV.cells,opv,List.getD_cons_zero,List.all_cons,AV.isCell,List.all_nil,Bool.and_self,↓reduceIte,xAr,List.set_cons_succ,List.set_cons_zero,xAi,xAg,xAj,xAd,xAQ,List.getD_cons_succ,xAC,xAm,xAH,xA1,List.getElem?_cons_zero,xAu,List.drop_succ_cons,List.drop_zero,List.take_succ_cons,List.take_zero,xAM,xA3,xA4,xWu,xTJ,e1,xTH,Option.map_none,Option.map_some,xRj,xRk,Int.toNat_natCast,xWs,Nat.sub_zero,Nat.mul_one,xBR,t1,xBe,xBJ,xAZ,xBl,Nat.reduceAdd,xAN,xBq,e2,t2,List.take_nil,e3,Nat.reduceMul,t3,List.drop_nil,List.append_nil,xBz,xBH,List.map_cons,List.map_nil,xBi,xBP,List.mapM_cons,xCo,xBa,xB0,List.mapM_nil,Option.pure_def,Option.bind_eq_bind,Option.bind_some,xBh,h,xBg,xDx,xCq,Bool.and_true,Bool.and_false,Bool.false_eq_true,xCE,List.flatMap_cons,xEi,xCp,xDP,List.flatMap_nil,List.foldl_nil,List.getElem?_cons_succ,xA0,xAP,xAV,xC9,xCz,xFm,xAD,xAS]
end Go.Abs.Det
