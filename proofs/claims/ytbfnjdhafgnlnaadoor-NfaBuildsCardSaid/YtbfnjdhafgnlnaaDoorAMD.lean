/- The lowest bit of a word: TrailingZeros64; the bits of a word in ascending order. -/
import Derived.Test.YtbfnjdhafgnlnaaDoorAbsBun
import Derived.Test.YtbfnjdhafgnlnaaDoorAMA
import Derived.Test.YtbfnjdhafgnlnaaDoorAMC
namespace Go.Abs.NfaD
open Go Go.Abs
set_option linter.unusedSimpArgs false
set_option linter.unusedVariables false
def Low (x k : Nat) : Prop := x.testBit k = true ∧ ∀ i,i < k → x.testBit i = false
theorem xSS {x k : Nat} (h : Low x k) : ∃ m,x = 2 ^ (k + 1) * m + 2 ^ k := by
 refine ⟨x / 2 ^ (k + 1),?_⟩
 apply Nat.eq_of_testBit_eq
 intro i
 rw [Nat.testBit_two_pow_mul_add _ (Nat.pow_lt_pow_right (by omega) (by omega) : 2 ^ k < 2 ^ (k + 1)),Nat.testBit_two_pow,Nat.testBit_div_two_pow]
 split
 ·rename_i hi
  by_cases e : k = i
  ·subst e; simp [h.1]
  ·rw [h.2 i (by omega)]; simp [e]
 ·rename_i hi
  rw [show i - (k + 1) + (k + 1) = i by omega]
theorem xQy {x k : Nat} (h : Low x k) : 0 < x := by
 obtain ⟨m,rfl⟩ := xSS h
 have := Nat.two_pow_pos k
 omega
theorem xVb {x k : Nat} (h : Low x k) (i : Nat) : (x - 1).testBit i = if i < k then true else if i = k then false else x.testBit i := by
 obtain ⟨m,rfl⟩ := xSS h
 have h1 := Nat.two_pow_pos k
 have h2 : 2 ^ k < 2 ^ (k + 1) := Nat.pow_lt_pow_right (by omega) (by omega)
 rw [show 2 ^ (k + 1) * m + 2 ^ k - 1 = 2 ^ (k + 1) * m + (2 ^ k - 1) by omega,Nat.testBit_two_pow_mul_add _ (by omega),Nat.testBit_two_pow_mul_add _ h2,Nat.testBit_two_pow_sub_one,Nat.testBit_two_pow]
 by_cases a : i < k
 ·simp [a,show i < k + 1 by omega]
 ·by_cases b : i = k
  ·subst b; simp
  ·simp [a,b,show ¬ i < k + 1 by omega]
theorem yBK {x k : Nat} (h : Low x k) (hx : x < 2 ^ 64) : x &&& (2 ^ 64 - x) = 2 ^ k := by
 have hp := xQy h
 apply Nat.eq_of_testBit_eq
 intro i
 have e : 2 ^ 64 - x = 2 ^ 64 - (x - 1 + 1) := by omega
 have hk : k < 64 := by
  rcases Nat.lt_or_ge k 64 with q | q
  ·exact q
  ·have : x.testBit k = false := Nat.testBit_lt_two_pow (Nat.lt_of_lt_of_le hx (Nat.pow_le_pow_right (by omega) q))
   rw [h.1] at this; cases this
 rw [Nat.testBit_and,e,Nat.testBit_two_pow_sub_succ (by omega),xVb h,Nat.testBit_two_pow]
 by_cases a : i < k
 ·simp [a,h.2 i a,show ¬ k = i by omega]
 ·by_cases b : i = k
  ·subst b; simp [h.1,hk]
  ·by_cases c : x.testBit i = true <;> simp [a,b,c,show ¬ k = i by omega]
theorem xYm {x k : Nat} (h : Low x k) (i : Nat) : (x &&& (x - 1)).testBit i = (x.testBit i && decide (i ≠ k)) := by
 rw [Nat.testBit_and,xVb h]
 by_cases a : i < k
 ·simp [a,h.2 i a]
 ·by_cases b : i = k
  ·subst b; simp
  ·by_cases c : x.testBit i = true <;> simp [a,b,c]
theorem yDG {x : Nat} (h0 : 0 < x) (hx : x < 18446744073709551616) : IntKind.u64.wrap (0 - (x : Int)) = ((18446744073709551616 - x : Nat) : Int) := by
 simp [IntKind.wrap,IntKind.bits,IntKind.signed]; omega
theorem yBL (n : Nat) : IntKind.u64.wrap (n : Int) = ((n % 18446744073709551616 : Nat) : Int) := by
 simp [IntKind.wrap,IntKind.bits,IntKind.signed]
def xST (k : Nat) : Nat := 2 ^ k * 285870213051353865 % 18446744073709551616 / 288230376151711744
def yCL (k : Nat) : Bool := match xNV 0 with
 | some cs => decide (xST k < cs.length) && (match cs[xST k]? with
  | some (AV.int .u8 n) => n == (k : Int)
  | _ => false)
 | none => false
theorem yET (k : Nat) (hk : k < 64) : ∃ cs,xNV 0 = some cs ∧ xST k < cs.length ∧ List.take 1 (List.drop (xST k) cs) = [.int .u8 (k : Nat)] := by
 have h1 : ∀ k : Fin 64,yCL k.val = true := by decide +kernel
 have h := h1 ⟨k,hk⟩
 unfold yCL at h
 split at h
 ·rename_i cs hcs
  refine ⟨cs,hcs,?_⟩
  simp only [Bool.and_eq_true,decide_eq_true_eq] at h
  obtain ⟨h2,h3⟩ := h
  refine ⟨h2,?_⟩
  split at h3
  ·rename_i n e
   rw [List.drop_eq_getElem_cons h2,List.take_succ_cons,List.take_zero]
   rw [List.getElem?_eq_getElem h2] at e
   rw [Option.some.inj e,eq_of_beq h3]
  ·cases h3
 ·cases h
theorem tz1 (k : Nat) : IntKind.u64.wrap (((2 ^ k : Nat) : Int) * 285870213051353865) = ((2 ^ k * 285870213051353865 % 18446744073709551616 : Nat) : Int) := by
  rw [show ((2 ^ k : Nat) : Int) * 285870213051353865 = ((2 ^ k * 285870213051353865 : Nat) : Int) from (Int.natCast_mul _ _).symm]
  exact yBL _
theorem tz2 : (2 : Int) ^ (min 58 IntKind.u64.bits) = 288230376151711744 := by
  rw [show min 58 IntKind.u64.bits = 58 from rfl]; rfl
theorem tz3 (k : Nat) : (((2 ^ k * 285870213051353865 % 18446744073709551616 : Nat) : Int)).fdiv 288230376151711744 = ((xST k : Nat) : Int) := by
  unfold xST
  generalize 2 ^ k * 285870213051353865 % 18446744073709551616 = c
  rw [Int.fdiv_eq_ediv_of_nonneg _ (by decide)]
  omega
theorem tz4 (k : Nat) : xST k < 64 := by
  have : 2 ^ k * 285870213051353865 % 18446744073709551616 < 18446744073709551616 := Nat.mod_lt _ (by omega)
  unfold xST
  omega
theorem tz5 {x k : Nat} (h : Low x k) (hx : x < 18446744073709551616) (e0 : ((x : Int) = 0) = False) (e1 : IntKind.u64.wrap (0 - (x : Int)) = ((18446744073709551616 - x : Nat) : Int)) : xJC .and .u64 (x : Int) ((18446744073709551616 - x : Nat) : Int) = ((2 ^ k : Nat) : Int) := by
  have hp := xQy h
  rw [yBX hx (by omega)]
  have := yBK h (by omega)
  rw [show (2 : Nat) ^ 64 = 18446744073709551616 by rfl] at this
  rw [this]
theorem tz6 {x k y c j : Nat} {cs : List AV} (hk : k < 64) (e0 : ((x : Int) = 0) = False) (e1 : IntKind.u64.wrap (0 - (x : Int)) = (y : Int)) (e2 : xJC .and .u64 (x : Int) (y : Int) = (c : Int)) (e3 : IntKind.u64.wrap ((c : Int) * 285870213051353865) = ((c * 285870213051353865 % 18446744073709551616 : Nat) : Int))
 (e4 : (((c * 285870213051353865 % 18446744073709551616 : Nat) : Int)).fdiv (2 ^ (min 58 IntKind.u64.bits)) = (j : Int)) (t1 : xNV 0 = some cs) (t2 : j < cs.length) (t3 : List.take 1 (List.drop j cs) = [.int .u8 (k : Nat)]) (hlt : j < 64) : L.pcall 81 [.int .u64 (x : Nat)] = some (.int .i64 (k : Nat)) := by
 generalize c * 285870213051353865 % 18446744073709551616 = d at *
 rw [yEO,a81,xAK]
 simp (maxSteps := 30000000) (disch := first | assumption | omega | (simp only [WL,AV.isCell] <;> omega) | rfl | decide) only [↓reduceIte,WB,xAR,xAc,xAQ,xAD,xAC,AV.cells,AV.isCell,xAb,xAj,xAk,WA,W2,xAd,xAe,xAi,Nat.reduceAdd,Nat.reduceSub,Nat.reduceLeDiff,Nat.reduceMul,Int.reduceAdd,Int.reduceSub,Int.reduceMul,Int.reduceLT,Int.reduceLE,Int.reduceEq,Int.reduceToNat,Int.reduceNeg,Nat.reduceEqDiff,Nat.reduceBEq,Nat.reduceLT,e0,e1,e2,e3,e4,t1,t3]
theorem yCM {x k : Nat} (h : Low x k) (hx : x < 18446744073709551616) : k < 64 := by
 rcases Nat.lt_or_ge k 64 with q | q
 ·exact q
 ·have : x.testBit k = false := Nat.testBit_lt_two_pow (Nat.lt_of_lt_of_le (by omega : x < 2 ^ 64) (Nat.pow_le_pow_right (by omega) q))
  rw [h.1] at this; cases this
theorem yEU {x k : Nat} (h : Low x k) (hx : x < 18446744073709551616) : L.pcall 81 [.int .u64 (x : Nat)] = some (.int .i64 (k : Nat)) := by
 have hp := xQy h
 have hk := yCM h hx
 have e0 : ((x : Int) = 0) = False := eq_false (by omega)
 have e1 := yDG hp hx
 obtain ⟨cs,t1,t2,t3⟩ := yET k hk
 exact tz6 hk e0 e1 (tz5 h hx e0 e1) (tz1 k) (by rw [tz2]; exact tz3 k) t1 t2 t3 (tz4 k)
def xBD (x j : Nat) : List Nat := (List.range' j (64 - j)).filter fun i => x.testBit i
theorem xQz {x j : Nat} (hj : j < 64) : xBD x j = if x.testBit j = true then j :: xBD x (j + 1) else xBD x (j + 1) := by
 unfold xBD
 rw [show 64 - j = (64 - (j + 1)) + 1 by omega,List.range'_succ,List.filter_cons]
theorem xSU (x : Nat) {j : Nat} (h : 64 ≤ j) : xBD x j = [] := by
 unfold xBD
 rw [show 64 - j = 0 by omega]; rfl
theorem yAR {x : Nat} : ∀ d j,j + d = 64 → (xBD x j = [] ∧ ∀ i,j ≤ i → i < 64 → x.testBit i = false) ∨ ∃ k,j ≤ k ∧ k < 64 ∧ x.testBit k = true ∧ (∀ i,j ≤ i → i < k → x.testBit i = false) ∧ xBD x j = k :: xBD x (k + 1)
 | 0,j,h => .inl ⟨xSU x (by omega),fun i h1 h2 => by omega⟩
 | d + 1,j,h => by
  rw [xQz (by omega)]
  cases hb : x.testBit j with
  | true => exact .inr ⟨j,Nat.le_refl _,by omega,hb,fun i h1 h2 => by omega,by simp⟩
  | false =>
   rcases yAR (x := x) d (j + 1) (by omega) with ⟨h1,h2⟩ | ⟨k,h1,h2,h3,h4,h5⟩
   ·refine .inl ⟨by simpa using h1,fun i hi1 hi2 => ?_⟩
    by_cases e : i = j
    ·subst e; exact hb
    ·exact h2 i (by omega) hi2
   ·refine .inr ⟨k,by omega,h2,h3,fun i hi1 hi2 => ?_,by simpa using h5⟩
    by_cases e : i = j
    ·subst e; exact hb
    ·exact h4 i (by omega) hi2
abbrev F44 (s0 s1 s3 s4 s5 s6 s7 s8 s9 s10 s11 : AV) : List AV := [s0,s1,.ptr 0 0,s3,s4,s5,s6,s7,s8,s9,s10,s11]
def yBM : List Nat → AV
 | [] => .sl true 0 []
 | a :: l => .own false (l.length + 1 + 1 + 1) 0 (l.length + 1) 1
def xTO : List Nat → Heap
 | [] => []
 | a :: l => List.replicate l.length .dead ++ [.cells false false (xEl (a :: l))]
theorem xYn (l : List Nat) (n : Nat) : xEl l ++ [AV.int .i64 (n : Nat)] = xEl (l ++ [n]) := by simp [xEl]
section
variable (s0 s1 s3 s4 s5 s6 s7 s8 s9 s10 s11 : AV)
abbrev H44 (sS : AV) (l : List Nat) : Heap := .cells false false [yBM l] :: .cells false false [sS] :: .loop 0 none (F44 s0 s1 s3 s4 s5 s6 s7 s8 s9 s10 s11) [6] xUF xZD :: xTO l
theorem yBN (sS : AV) (l : List Nat) (k : Nat) (hl : l.length < 1000000) :
  L.icall (.yield 2) [.int .i64 (k : Nat)] (H44 s0 s1 s3 s4 s5 s6 s7 s8 s9 s10 s11 sS l) = some (.bool true,H44 s0 s1 s3 s4 s5 s6 s7 s8 s9 s10 s11 sS (l ++ [k])) := by
 cases l with
 | nil =>
  rw [xMb,xSz (hH := rfl) (h1 := rfl) (h2 := rfl) (h3 := rfl)]
  simp only [H44,yBM,xTO]
  simp (maxSteps := 30000000) (disch := first | assumption | omega | (simp only [WL,AV.isCell] <;> omega) | rfl | decide) only [↓reduceIte,WB,xAR,xAc,xAQ,xAD,xAC,AV.cells,AV.isCell,xAb,xAj,xAk,WA,W2,xAd,xAe,xAi,Nat.reduceAdd,Nat.reduceSub,Nat.reduceLeDiff,Nat.reduceMul,Int.reduceAdd,Int.reduceSub,Int.reduceMul,Int.reduceLT,Int.reduceLE,Int.reduceEq,Int.reduceToNat,Int.reduceNeg,Nat.reduceEqDiff,Nat.reduceBEq,Nat.reduceLT,yAz,xXo,xQq,xUE]
  rfl
 | cons a l =>
  have hl' : l.length + 1 < 1000000 := hl
  have hsn : xEl (a :: l) ++ [AV.int .i64 (k : Nat)] = xEl (a :: (l ++ [k])) := xYn (a :: l) k
  have htk : List.take (l.length + 1) (a :: l) = a :: l := List.take_of_length_le (by simp)
  have hrep : List.replicate l.length Blk.dead ++ [Blk.dead] = List.replicate (l.length + 1) Blk.dead := List.replicate_succ'.symm
  rw [xMb,xSz (hH := rfl) (h1 := rfl) (h2 := rfl) (h3 := rfl)]
  simp only [H44,yBM,xTO]
  simp (maxSteps := 30000000) (disch := first | assumption | omega | (simp only [WL,AV.isCell] <;> omega) | rfl | decide) only [↓reduceIte,WB,xAR,xAc,xAQ,xAD,xAC,AV.cells,AV.isCell,xAb,xAj,xAk,WA,W2,xAd,xAe,xAi,Nat.reduceAdd,Nat.reduceSub,Nat.reduceLeDiff,Nat.reduceMul,Int.reduceAdd,Int.reduceSub,Int.reduceMul,Int.reduceLT,Int.reduceLE,Int.reduceEq,Int.reduceToNat,Int.reduceNeg,Nat.reduceEqDiff,Nat.reduceBEq,Nat.reduceLT,yAz,xXo,xQq,xUE,hsn,htk]
  rw [← hrep,List.append_assoc]
  rfl
theorem xMd (x j : Nat) : (xBD x j).length ≤ 64 - j := by
 unfold xBD
 exact Nat.le_trans (List.length_filter_le _ _) (by simp)
theorem yEV (sS : AV) {x : Nat} (i : Nat) (hi : i < 64) : ∀ d j w l,j + d = 64 → (∀ b,w.testBit b = (x.testBit b && decide (j ≤ b))) → w < 18446744073709551616 → l.length + d < 900000 →
  ∀ (t9 t10 t11 : AV),L.loop xSs xZK ⟨xSt (.yield 2) (.int .i64 (i : Nat)) (.int .u64 (w : Nat)) t9 t10 t11,H44 s0 s1 s3 s4 s5 s6 s7 s8 s9 s10 s11 sS l⟩ =
   some (.exit 2,⟨xSt (.yield 2) (.int .i64 (i : Nat)) (.int .u64 0) t9 t10 t11,H44 s0 s1 s3 s4 s5 s6 s7 s8 s9 s10 s11 sS (l ++ (xBD x j).map (fun b => 64 * i + b))⟩) := by
 intro d
 induction d using Nat.strongRecOn with
 | _ d ih =>
  intro j w l hjd hw hw64 hl t9 t10 t11
  rcases yAR (x := x) d j hjd with ⟨h1,h2⟩ | ⟨k,h1,h2,h3,h4,h5⟩
  ·obtain rfl : w = 0 := by
    apply Nat.eq_of_testBit_eq
    intro b
    rw [hw,Nat.zero_testBit]
    by_cases hb : b < 64
    ·by_cases hj : j ≤ b
     ·rw [h2 b hj hb]; rfl
     ·simp [hj]
    ·have : w.testBit b = false := Nat.testBit_lt_two_pow (Nat.lt_of_lt_of_le (by omega : w < 2 ^ 64) (Nat.pow_le_pow_right (by omega) (by omega)))
     rw [← hw b,this]
   rw [h1,List.map_nil,List.append_nil,yAB]
   simp (maxSteps := 30000000) (disch := first | assumption | omega | (simp only [WL,AV.isCell] <;> omega) | rfl | decide) only [↓reduceIte,WB,xAR,xAc,xAQ,xAD,xAC,AV.cells,AV.isCell,xAb,xAj,xAk,WA,W2,xAd,xAe,xAi,Nat.reduceAdd,Nat.reduceSub,Nat.reduceLeDiff,Nat.reduceMul,Int.reduceAdd,Int.reduceSub,Int.reduceMul,Int.reduceLT,Int.reduceLE,Int.reduceEq,Int.reduceToNat,Int.reduceNeg,Nat.reduceEqDiff,Nat.reduceBEq,Nat.reduceLT,xUL,xXx]
  ·have hlow : Low w k := ⟨by rw [hw,h3]; simp [h1],fun b hb => by
    rw [hw]
    by_cases hj : j ≤ b
    ·rw [h4 b hj hb]; rfl
    ·simp [hj]⟩
   have htz := yEU hlow hw64
   have hp := xQy hlow
   have e0 : ((w : Int) = 0) = False := eq_false (by omega)
   have hand := yBX (a := w) (b := w - 1) hw64 (by omega)
   have hle : w &&& (w - 1) ≤ w := Nat.and_le_left
   have hc : (64 : Int) * (i : Nat) + (k : Nat) = ((64 * i + k : Nat) : Int) := by omega
   have hr := yBN s0 s1 s3 s4 s5 s6 s7 s8 s9 s10 s11 sS l (64 * i + k) (by omega)
   have hrec := ih (64 - (k + 1)) (by omega) (k + 1) (w &&& (w - 1)) (l ++ [64 * i + k]) (by omega) (fun b => by
    rw [xYm hlow,hw]
    by_cases e : b = k
    ·subst e; simp
    ·by_cases hb : k + 1 ≤ b
     ·simp [e,hb,show j ≤ b by omega]
     ·by_cases hj : j ≤ b
      ·rw [h4 b hj (by omega)]; rfl
      ·simp [hj,hb]) (by omega) (by simp only [List.length_append,List.length_cons,List.length_nil]; omega) t9 t10 t11
   rw [h5,List.map_cons,← List.singleton_append (l := List.map _ _),← List.append_assoc,← hrec,yAB]
   simp only [H44] at hr ⊢
   generalize w &&& (w - 1) = w' at *
   simp (maxSteps := 30000000) (disch := first | assumption | omega | (simp only [WL,AV.isCell] <;> omega) | rfl | decide) only [↓reduceIte,WB,xAR,xAc,xAQ,xAD,xAC,AV.cells,AV.isCell,xAb,xAj,xAk,WA,W2,xAd,xAe,xAi,Nat.reduceAdd,Nat.reduceSub,Nat.reduceLeDiff,Nat.reduceMul,Int.reduceAdd,Int.reduceSub,Int.reduceMul,Int.reduceLT,Int.reduceLE,Int.reduceEq,Int.reduceToNat,Int.reduceNeg,Nat.reduceEqDiff,Nat.reduceBEq,Nat.reduceLT,xUL,xXx,e0,htz,hc,hr,hand]
end
def xB5 (a : List Nat) : Nat → Nat → List Nat
 | i,0 => []
 | i,d + 1 => (xBD (a.getD i 0) 0).map (fun b => 64 * i + b) ++ xB5 a (i + 1) d
theorem xKr (a : List Nat) : ∀ d i,(xB5 a i d).length ≤ 64 * d
 | 0,i => by simp [xB5]
 | d + 1,i => by
  have h1 := xMd (a.getD i 0) 0
  have h2 := xKr a d (i + 1)
  simp only [xB5,List.length_append,List.length_map]
  omega
def xNF (a : List Nat) : List Nat := xB5 a 0 (min a.length 64)
theorem xYo (a : List Nat) : (xNF a).length ≤ 4096 := by
 have := xKr a (min a.length 64) 0
 unfold xNF
 omega
section
variable (s0 s1 s3 s4 s5 s6 s7 s8 s9 s10 s11 : AV)
theorem yCN (sS : AV) {z : Bool} {a : List Nat} (wa : W a) {N : Nat} (hN : N = min a.length 64) : ∀ d i l,i + d = N → l.length ≤ 64 * i →
  L.loop xSu xZL ⟨xSv (.yield 2) (.sl z N (w64 (a.take N))) (.int .i64 (N : Nat)) (.int .i64 (i : Nat)),H44 s0 s1 s3 s4 s5 s6 s7 s8 s9 s10 s11 sS l⟩ =
   some (.exit 0,⟨xSv (.yield 2) (.sl z N (w64 (a.take N))) (.int .i64 (N : Nat)) (.int .i64 (N : Nat)),H44 s0 s1 s3 s4 s5 s6 s7 s8 s9 s10 s11 sS (l ++ xB5 a i d)⟩)
 | 0,i,l,h,hl => by
  obtain rfl : i = N := by omega
  rw [xB5,List.append_nil,yAC]
  simp (maxSteps := 30000000) (disch := first | assumption | omega | (simp only [WL,AV.isCell] <;> omega) | rfl | decide) only [↓reduceIte,WB,xAR,xAc,xAQ,xAD,xAC,AV.cells,AV.isCell,xAb,xAj,xAk,WA,W2,xAd,xAe,xAi,Nat.reduceAdd,Nat.reduceSub,Nat.reduceLeDiff,Nat.reduceMul,Int.reduceAdd,Int.reduceSub,Int.reduceMul,Int.reduceLT,Int.reduceLE,Int.reduceEq,Int.reduceToNat,Int.reduceNeg,Nat.reduceEqDiff,Nat.reduceBEq,Nat.reduceLT,xUM,xUN]
 | d + 1,i,l,h,hl => by
  have hlt : (i : Int) < (N : Nat) := by omega
  have hb := xMd (a.getD i 0) 0
  have ih := yCN sS (z := z) wa hN d (i + 1) (l ++ (xBD (a.getD i 0) 0).map (fun b => 64 * i + b)) (by omega) (by simp only [List.length_append,List.length_map]; omega)
  have hin := yEV s0 s1 s3 s4 s5 s6 s7 s8 s9 s10 s11 sS (x := a.getD i 0) i (by omega) 64 0 (a.getD i 0) l (by omega) (fun b => by simp) (wa.get i) (by omega) (.sl z N (w64 (a.take N))) (.int .i64 (N : Nat)) (.int .i64 (i : Nat))
  have hln : (List.take N a).length = N := by rw [List.length_take]; omega
  have hg : (List.take N a).getD i 0 = a.getD i 0 := by
   simp [List.getD,List.getElem?_take,show i < N by omega]
  rw [xB5,← List.append_assoc,← ih,yAC]
  simp only [H44] at hin ⊢
  generalize (xBD (a.getD i 0) 0) = B at *
  simp (maxSteps := 30000000) (disch := first | assumption | omega | (simp only [WL,AV.isCell] <;> omega) | rfl | decide) only [↓reduceIte,WB,xAR,xAc,xAQ,xAD,xAC,AV.cells,AV.isCell,xAb,xAj,xAk,WA,W2,xAd,xAe,xAi,Nat.reduceAdd,Nat.reduceSub,Nat.reduceLeDiff,Nat.reduceMul,Int.reduceAdd,Int.reduceSub,Int.reduceMul,Int.reduceLT,Int.reduceLE,Int.reduceEq,Int.reduceToNat,Int.reduceNeg,Nat.reduceEqDiff,Nat.reduceBEq,Nat.reduceLT,xUM,xUN,xXx,hlt,hg,hln,hin]
end
theorem xZ5 (z : Bool) {a : List Nat} (wa : W a) (hl : a.length < 1099511627776) : L.pcall 44 [sw z a] = some (.sl (decide ((xNF a).length = 0)) (xNF a).length (xEl (xNF a))) := by
 have hm : min (a.length : Int) 64 = ((min a.length 64 : Nat) : Int) := by omega
 have ho := fun s0 s1 s3 s4 s5 s6 s7 s8 s9 s10 s11 sS => yCN s0 s1 s3 s4 s5 s6 s7 s8 s9 s10 s11 sS (z := z) wa rfl (min a.length 64) 0 [] (by omega) (by simp)
 simp only [List.nil_append,Int.natCast_zero,H44,yBM,xTO] at ho
 have hle : min a.length 64 ≤ a.length := Nat.min_le_left _ _
 have hll := xYo a
 change ∀ s0 s1 s3 s4 s5 s6 s7 s8 s9 s10 s11 sS,_ = some (_,(⟨_,(Blk.cells false false [yBM (xNF a)] :: Blk.cells false false [sS] :: Blk.loop 0 none (F44 s0 s1 s3 s4 s5 s6 s7 s8 s9 s10 s11) [6] xUF xZD :: xTO (xNF a) : Heap)⟩ : St)) at ho
 generalize min a.length 64 = N at *
 rw [yEv,a44,xAK]
 cases e : xNF a with
 | nil =>
  rw [e] at ho
  simp only [yBM,xTO] at ho
  simp (maxSteps := 30000000) (disch := first | assumption | omega | (simp only [WL,AV.isCell] <;> omega) | rfl | decide) only [↓reduceIte,WB,xAR,xAc,xAQ,xAD,xAC,AV.cells,AV.isCell,xAb,xAj,xAk,WA,W2,xAd,xAe,xAi,Nat.reduceAdd,Nat.reduceSub,Nat.reduceLeDiff,Nat.reduceMul,Int.reduceAdd,Int.reduceSub,Int.reduceMul,Int.reduceLT,Int.reduceLE,Int.reduceEq,Int.reduceToNat,Int.reduceNeg,Nat.reduceEqDiff,Nat.reduceBEq,Nat.reduceLT,yD4,a69,yD7,a80,xUN,hm,ho]
  rfl
 | cons x l =>
  rw [e] at ho hll
  simp only [List.length_cons] at hll
  simp only [yBM,xTO] at ho
  have htk : List.take (l.length + 1) (x :: l) = x :: l := List.take_of_length_le (by simp)
  simp (maxSteps := 30000000) (disch := first | assumption | omega | (simp only [WL,AV.isCell] <;> omega) | rfl | decide) only [↓reduceIte,WB,xAR,xAc,xAQ,xAD,xAC,AV.cells,AV.isCell,xAb,xAj,xAk,WA,W2,xAd,xAe,xAi,Nat.reduceAdd,Nat.reduceSub,Nat.reduceLeDiff,Nat.reduceMul,Int.reduceAdd,Int.reduceSub,Int.reduceMul,Int.reduceLT,Int.reduceLE,Int.reduceEq,Int.reduceToNat,Int.reduceNeg,Nat.reduceEqDiff,Nat.reduceBEq,Nat.reduceLT,yD4,a69,yD7,a80,xUN,hm,ho,htk]
def toN : List Nat → Nat
 | [] => 0
 | b :: l => b + 256 * toN l
def mk (p : Nat) : Nat → Nat
 | 0 => 0
 | n + 1 => p + 256 * mk p n
theorem xIc {a c : Nat} (X M : Nat) (ha : a < 256) (hc : c < 256) : (a + 256 * X) &&& (c + 256 * M) = (a &&& c) + 256 * (X &&& M) := by
 have hac : a &&& c < 2 ^ 8 := Nat.lt_of_le_of_lt Nat.and_le_left ha
 apply Nat.eq_of_testBit_eq
 intro i
 rw [show a + 256 * X = 2 ^ 8 * X + a by omega,show c + 256 * M = 2 ^ 8 * M + c by omega,show (a &&& c) + 256 * (X &&& M) = 2 ^ 8 * (X &&& M) + (a &&& c) by omega,Nat.testBit_and,
  Nat.testBit_two_pow_mul_add _ (by omega : a < 2 ^ 8),Nat.testBit_two_pow_mul_add _ (by omega : c < 2 ^ 8),Nat.testBit_two_pow_mul_add _ hac]
 split <;> rw [Nat.testBit_and]
def t1 (b : Nat) : Nat := (b / 2 &&& 85) + (b &&& 85)
def t2 (b : Nat) : Nat := (b / 4 &&& 51) + (b &&& 51)
def t3 (b : Nat) : Nat := b / 16 + b % 16
def Byt (l : List Nat) : Prop := ∀ b ∈ l,b < 256
theorem d1 : ∀ (b : Fin 256) (r : Fin 2),(b.val / 2 + 128 * r.val) &&& 85 = b.val / 2 &&& 85 := by decide +kernel
theorem d2 : ∀ (b : Fin 256) (r : Fin 4),(b.val / 4 + 64 * r.val) &&& 51 = b.val / 4 &&& 51 := by decide +kernel
theorem d3 : ∀ (b : Fin 69) (r : Fin 5),b.val % 16 ≤ 4 → (b.val / 16 + 16 * r.val + b.val) &&& 15 = b.val / 16 + b.val % 16 := by decide +kernel
theorem d4 : ∀ b : Fin 256,t1 b.val < 256 ∧ t2 (t1 b.val) < 69 ∧ t2 (t1 b.val) % 16 ≤ 4 ∧ t3 (t2 (t1 b.val)) ≤ 8 ∧ t3 (t2 (t1 b.val)) = ((List.range 8).filter fun i => b.val.testBit i).length := by decide +kernel
theorem st1 : ∀ l : List Nat,Byt l → (toN l / 2 &&& mk 85 l.length) + (toN l &&& mk 85 l.length) = toN (l.map t1)
 | [],_ => rfl
 | b :: l,h => by
  have hb := h b (by simp)
  have ih := st1 l (fun c hc => h c (by simp [hc]))
  have e := d1 ⟨b,hb⟩ ⟨toN l % 2,by omega⟩
  simp only at e
  simp only [toN,List.map_cons,List.length_cons,mk,t1]
  rw [show (b + 256 * toN l) / 2 = (b / 2 + 128 * (toN l % 2)) + 256 * (toN l / 2) by omega,xIc _ _ (by omega) (by omega),xIc _ _ hb (by omega),e,← ih]
  omega
theorem st2 : ∀ l : List Nat,Byt l → (toN l / 4 &&& mk 51 l.length) + (toN l &&& mk 51 l.length) = toN (l.map t2)
 | [],_ => rfl
 | b :: l,h => by
  have hb := h b (by simp)
  have ih := st2 l (fun c hc => h c (by simp [hc]))
  have e := d2 ⟨b,hb⟩ ⟨toN l % 4,by omega⟩
  simp only at e
  simp only [toN,List.map_cons,List.length_cons,mk,t2]
  rw [show (b + 256 * toN l) / 4 = (b / 4 + 64 * (toN l % 4)) + 256 * (toN l / 4) by omega,xIc _ _ (by omega) (by omega),xIc _ _ hb (by omega),e,← ih]
  omega
def Nib (l : List Nat) : Prop := ∀ b ∈ l,b < 69 ∧ b % 16 ≤ 4
theorem yBO {l : List Nat} (h : Nib l) : toN l % 16 ≤ 4 := by
 cases l with
 | nil => simp [toN]
 | cons b l => have := (h b (by simp)).2; simp only [toN]; omega
theorem st3 : ∀ l : List Nat,Nib l → (toN l / 16 + toN l) &&& mk 15 l.length = toN (l.map t3)
 | [],_ => rfl
 | b :: l,h => by
  have hb := h b (by simp)
  have hl : Nib l := fun c hc => h c (by simp [hc])
  have ih := st3 l hl
  have hm := yBO hl
  have e := d3 ⟨b,hb.1⟩ ⟨toN l % 16,by omega⟩ hb.2
  simp only at e
  simp only [toN,List.map_cons,List.length_cons,mk,t3]
  rw [show (b + 256 * toN l) / 16 + (b + 256 * toN l) = (b / 16 + 16 * (toN l % 16) + b) + 256 * (toN l / 16 + toN l) by omega,xIc _ _ (by omega) (by omega),e,← ih]
def bytes : Nat → Nat → List Nat
 | _,0 => []
 | x,n + 1 => x % 256 :: bytes (x / 256) n
theorem yEW (a n : Nat) (hn : n ≤ 64) : (a : Int).fdiv (2 ^ (min n IntKind.u64.bits)) = ((a / 2 ^ n : Nat) : Int) := by
 have e1 : min n IntKind.u64.bits = n := Nat.min_eq_left (by show n ≤ 64; omega)
 rw [e1,show (2 : Int) ^ n = ((2 ^ n : Nat) : Int) from by rw [Int.natCast_pow]; rfl,Int.fdiv_eq_ediv_of_nonneg _ (Int.natCast_nonneg _)]
 rfl
theorem xNY (x : Nat) : xBD x 0 = (List.range 64).filter fun i => x.testBit i := by
 unfold xBD
 rw [Nat.sub_zero,← List.range_eq_range']
theorem xMe (a : List Nat) : ∀ d i,i + d ≤ 64 → xB5 a i d = (List.range' (64 * i) (64 * d)).filter (mem a)
 | 0,i,_ => by simp [xB5]
 | d + 1,i,h => by
  rw [xB5,xMe a d (i + 1) (by omega),Nat.mul_add 64 d 1,Nat.add_comm (64 * d),Nat.mul_one,← List.range'_append_1,List.filter_append,xNY,Nat.mul_add 64 i 1,Nat.mul_one]
  congr 1
  rw [List.range'_eq_map_range,List.filter_map]
  congr 1
  apply List.filter_congr
  intro b hb
  have hb' := List.mem_range.1 hb
  show _ = mem a (64 * i + b)
  unfold mem
  rw [show (64 * i + b) / 64 = i by omega,show (64 * i + b) % 64 = b by omega]
  simp [show 64 * i + b < 4096 by omega]
theorem xSV (a : List Nat) : xNF a = (List.range 4096).filter (mem a) := by
 unfold xNF
 have hN : min a.length 64 ≤ 64 := Nat.min_le_right _ _
 rw [xMe a _ 0 (by omega),Nat.mul_zero]
 have e : List.range 4096 = List.range' 0 (64 * min a.length 64) ++ List.range' (64 * min a.length 64) (4096 - 64 * min a.length 64) := by
  have e0 := List.range'_append_1 (s := 0) (m := 64 * min a.length 64) (n := 4096 - 64 * min a.length 64)
  rw [Nat.zero_add,show 64 * min a.length 64 + (4096 - 64 * min a.length 64) = 4096 by omega] at e0
  rw [List.range_eq_range',e0]
 rw [e,List.filter_append]
 have h2 : (List.range' (64 * min a.length 64) (4096 - 64 * min a.length 64)).filter (mem a) = [] := by
  rw [List.filter_eq_nil_iff]
  intro j hj
  rw [List.mem_range'_1] at hj
  have : a.length ≤ j / 64 := by omega
  unfold mem
  rw [xEc this]
  simp
 rw [h2,List.append_nil]
def setL (S : Nat → Bool) : List Nat := (List.range 4096).filter S
theorem xZ6 {v : AV} {S : Nat → Bool} (hv : HasSet v S) : L.pcall 44 [v] = some (.sl (decide ((setL S).length = 0)) (setL S).length (xEl (setL S))) := by
 obtain ⟨z,l,rfl,w,hl,h⟩ := hv
 have e : setL S = xNF l := by
  rw [xSV]
  unfold setL
  apply List.filter_congr
  intro j _
  rw [h]
 rw [e]
 exact xZ5 z w hl
def xHz (S : Nat → Bool) (q : Nat) : Nat := ((List.range q).filter S).length
theorem xLO (S : Nat → Bool) {q : Nat} (hq : q ≤ 4096) : setL S = (List.range q).filter S ++ (List.range' q (4096 - q)).filter S := by
 unfold setL
 have e0 := List.range'_append_1 (s := 0) (m := q) (n := 4096 - q)
 rw [Nat.zero_add,show q + (4096 - q) = 4096 by omega] at e0
 rw [List.range_eq_range',List.range_eq_range',← List.filter_append,e0]
theorem yBP (S : Nat → Bool) {q : Nat} (hq : q ≤ 4096) : xHz S q ≤ (setL S).length := by
 rw [xLO S hq,List.length_append]; unfold xHz; omega
theorem xMy (S : Nat → Bool) : (setL S).length ≤ 4096 := by
 unfold setL
 exact Nat.le_trans (List.length_filter_le _ _) (by simp)
theorem yBQ (S : Nat → Bool) {q h : Nat} (hq : q ≤ 4096) (hh : h < (setL S).length) : ((setL S).getD h 0 < q) = (h < xHz S q) := by
 have hs := xLO S hq
 rw [hs] at hh ⊢
 rw [List.length_append] at hh
 apply propext
 rw [List.getD_eq_getElem?_getD]
 by_cases c : h < ((List.range q).filter S).length
 ·rw [List.getElem?_append_left c,List.getElem?_eq_getElem c,Option.getD_some]
  have := List.getElem_mem c
  rw [List.mem_filter,List.mem_range] at this
  exact ⟨fun _ => c,fun _ => this.1⟩
 ·rw [List.getElem?_append_right (by omega),List.getElem?_eq_getElem (by omega),Option.getD_some]
  have := List.getElem_mem (l := (List.range' q (4096 - q)).filter S) (n := h - ((List.range q).filter S).length) (by omega)
  rw [List.mem_filter,List.mem_range'_1] at this
  exact ⟨fun _ => by omega,fun h' => (c h').elim⟩
theorem xSW (S : Nat → Bool) {q : Nat} (hq : q < 4096) : (xHz S q < (setL S).length ∧ (setL S).getD (xHz S q) 0 = q) ↔ S q = true := by
 have hs := xLO S (by omega : q ≤ 4096)
 have h1 : List.range' q (4096 - q) = q :: List.range' (q + 1) (4096 - (q + 1)) := by
  rw [show 4096 - q = (4096 - (q + 1)) + 1 by omega,List.range'_succ]
 rw [hs]
 unfold xHz
 rw [List.length_append,List.getD_eq_getElem?_getD,List.getElem?_append_right (by omega),Nat.sub_self,h1,List.filter_cons]
 constructor
 ·rintro ⟨h2,h3⟩
  cases hq' : S q with
  | true => rfl
  | false =>
   rw [hq'] at h2 h3
   simp only [Bool.false_eq_true,if_false] at h2 h3
   have hl : 0 < ((List.range' (q + 1) (4096 - (q + 1))).filter S).length := by omega
   rw [List.getElem?_eq_getElem hl,Option.getD_some] at h3
   have := List.getElem_mem hl
   rw [List.mem_filter,List.mem_range'_1] at this
   omega
 ·intro hq'
  rw [if_pos hq']
  simp
theorem yDH (a : Int) : L.pcall 84 [.int .i64 a] = some (.bool false) := by
 have e : (a != a) = false := by simp
 rw [yEP,a84,xAK]
 simp (maxSteps := 30000000) (disch := first | assumption | omega | (simp only [WL,AV.isCell] <;> omega) | rfl | decide) only [↓reduceIte,WB,xAR,xAc,xAQ,xAD,xAC,AV.cells,AV.isCell,xAb,xAj,xAk,W2,xAd,xAe,xAi,Nat.reduceAdd,Nat.reduceSub,Nat.reduceLeDiff,Nat.reduceMul,Int.reduceAdd,Int.reduceSub,Int.reduceMul,Int.reduceLT,Int.reduceLE,Int.reduceEq,Int.reduceToNat,Int.reduceNeg,Nat.reduceEqDiff,Nat.reduceBEq,Nat.reduceLT,e]
theorem yDI (a : Int) : L.pcall 73 [.int .i64 a] = some (.bool false) := by
 have e : (a != a) = false := by simp
 rw [yEL,a73,xAK]
 simp (maxSteps := 30000000) (disch := first | assumption | omega | (simp only [WL,AV.isCell] <;> omega) | rfl | decide) only [↓reduceIte,WB,xAR,xAc,xAQ,xAD,xAC,AV.cells,AV.isCell,xAb,xAj,xAk,W2,xAd,xAe,xAi,Nat.reduceAdd,Nat.reduceSub,Nat.reduceLeDiff,Nat.reduceMul,Int.reduceAdd,Int.reduceSub,Int.reduceMul,Int.reduceLT,Int.reduceLE,Int.reduceEq,Int.reduceToNat,Int.reduceNeg,Nat.reduceEqDiff,Nat.reduceBEq,Nat.reduceLT,e]
theorem yAS (a b : Int) : L.pcall 72 [.int .i64 a,.int .i64 b] = some (.bool (decide (a < b))) := by
 rw [yEK,a72,xAK]
 simp (maxSteps := 30000000) (disch := first | assumption | omega | (simp only [WL,AV.isCell] <;> omega) | rfl | decide) only [↓reduceIte,WB,xAR,xAc,xAQ,xAD,xAC,AV.cells,AV.isCell,xAb,xAj,xAk,W2,xAd,xAe,xAi,Nat.reduceAdd,Nat.reduceSub,Nat.reduceLeDiff,Nat.reduceMul,Int.reduceAdd,Int.reduceSub,Int.reduceMul,Int.reduceLT,Int.reduceLE,Int.reduceEq,Int.reduceToNat,Int.reduceNeg,Nat.reduceEqDiff,Nat.reduceBEq,Nat.reduceLT,yDH]
theorem xTP {z : Bool} {l : List Nat} {q r : Nat} (hl : l.length ≤ 4096) (hr : ∀ h,h < l.length → (l.getD h 0 < q) = (h < r)) : ∀ d i j,j - i ≤ d → i ≤ r → r ≤ j → j ≤ l.length →
  L.loop xSb xZE ⟨xSc (.sl z l.length (xEl l)) (.int .i64 (q : Nat)) (.int .i64 (l.length : Nat)) (.int .i64 (i : Nat)) (.int .i64 (j : Nat)),[]⟩ =
   some (.exit 0,⟨xSc (.sl z l.length (xEl l)) (.int .i64 (q : Nat)) (.int .i64 (l.length : Nat)) (.int .i64 (r : Nat)) (.int .i64 (r : Nat)),[]⟩)
 | 0,i,j,h1,h2,h3,h4 => by
  obtain rfl : i = r := by omega
  obtain rfl : j = i := by omega
  rw [xUG]
  simp (maxSteps := 30000000) (disch := first | assumption | omega | (simp only [WL,AV.isCell] <;> omega) | rfl | decide) only [↓reduceIte,WB,xAR,xAc,xAQ,xAD,xAC,AV.cells,AV.isCell,xAb,xAj,xAk,W2,xAd,xAe,xAi,Nat.reduceAdd,Nat.reduceSub,Nat.reduceLeDiff,Nat.reduceMul,Int.reduceAdd,Int.reduceSub,Int.reduceMul,Int.reduceLT,Int.reduceLE,Int.reduceEq,Int.reduceToNat,Int.reduceNeg,Nat.reduceEqDiff,Nat.reduceBEq,Nat.reduceLT,xOM,xNn]
 | d + 1,i,j,h1,h2,h3,h4 => by
  by_cases hij : i < j
  ·have hlt : (i : Int) < (j : Nat) := by omega
   have hm : ((i + j : Nat) : Int).fdiv (2 ^ (min 1 IntKind.u64.bits)) = (((i + j) / 2 : Nat) : Int) := yEW (i + j) 1 (by omega)
   have hmlt : (i + j) / 2 < l.length := by omega
   have hrm := hr _ hmlt
   have hle : ((((l.getD ((i + j) / 2) 0 : Nat) : Int) < (q : Nat))) = (l.getD ((i + j) / 2) 0 < q) := propext ⟨fun h => by omega,fun h => by omega⟩
   by_cases c : (i + j) / 2 < r
   ·have ih := xTP (z := z) hl hr d ((i + j) / 2 + 1) j (by omega) (by omega) h3 h4
    rw [xUG]
    generalize (i + j) / 2 = m at *
    simp (maxSteps := 30000000) (disch := first | assumption | omega | (simp only [WL,AV.isCell] <;> omega) | rfl | decide) only [↓reduceIte,WB,xAR,xAc,xAQ,xAD,xAC,AV.cells,AV.isCell,xAb,xAj,xAk,W2,xAd,xAe,xAi,Nat.reduceAdd,Nat.reduceSub,Nat.reduceLeDiff,Nat.reduceMul,Int.reduceAdd,Int.reduceSub,Int.reduceMul,Int.reduceLT,Int.reduceLE,Int.reduceEq,Int.reduceToNat,Int.reduceNeg,Nat.reduceEqDiff,Nat.reduceBEq,Nat.reduceLT,xOM,xNn,hlt,hm,yAS,hle,hrm,c,ih]
   ·have ih := xTP (z := z) hl hr d i ((i + j) / 2) (by omega) h2 (by omega) (by omega)
    rw [xUG]
    generalize (i + j) / 2 = m at *
    simp (maxSteps := 30000000) (disch := first | assumption | omega | (simp only [WL,AV.isCell] <;> omega) | rfl | decide) only [↓reduceIte,WB,xAR,xAc,xAQ,xAD,xAC,AV.cells,AV.isCell,xAb,xAj,xAk,W2,xAd,xAe,xAi,Nat.reduceAdd,Nat.reduceSub,Nat.reduceLeDiff,Nat.reduceMul,Int.reduceAdd,Int.reduceSub,Int.reduceMul,Int.reduceLT,Int.reduceLE,Int.reduceEq,Int.reduceToNat,Int.reduceNeg,Nat.reduceEqDiff,Nat.reduceBEq,Nat.reduceLT,xOM,xNn,hlt,hm,yAS,hle,hrm,c,ih]
  ·obtain rfl : i = r := by omega
   obtain rfl : j = i := by omega
   rw [xUG]
   simp (maxSteps := 30000000) (disch := first | assumption | omega | (simp only [WL,AV.isCell] <;> omega) | rfl | decide) only [↓reduceIte,WB,xAR,xAc,xAQ,xAD,xAC,AV.cells,AV.isCell,xAb,xAj,xAk,W2,xAd,xAe,xAi,Nat.reduceAdd,Nat.reduceSub,Nat.reduceLeDiff,Nat.reduceMul,Int.reduceAdd,Int.reduceSub,Int.reduceMul,Int.reduceLT,Int.reduceLE,Int.reduceEq,Int.reduceToNat,Int.reduceNeg,Nat.reduceEqDiff,Nat.reduceBEq,Nat.reduceLT,xOM,xNn]
theorem yDJ (z : Bool) (S : Nat → Bool) {q : Nat} (hq : q < 4096) : L.pcall 47 [.sl z (setL S).length (xEl (setL S)),.int .i64 (q : Nat)] = some (.tup [.int .i64 (xHz S q : Nat),.bool (S q)]) := by
 have hlen := xMy S
 have hrk := yBP S (by omega : q ≤ 4096)
 have hloop := xTP (z := z) (l := setL S) (q := q) (r := xHz S q) hlen (fun h hh => yBQ S (by omega) hh) (setL S).length 0 (setL S).length (by omega) (by omega) hrk (by omega)
 have hiff := xSW S hq
 simp only [Int.natCast_zero] at hloop
 generalize setL S = l at *
 generalize xHz S q = r at *
 by_cases hlt : r < l.length
 ·have hlt' : (r : Int) < (l.length : Nat) := by omega
  by_cases he : l.getD r 0 = q
  ·rw [hiff.1 ⟨hlt,he⟩,yDg,a47,xAK]
   simp (maxSteps := 30000000) (disch := first | assumption | omega | (simp only [WL,AV.isCell] <;> omega) | rfl | decide) only [↓reduceIte,WB,xAR,xAc,xAQ,xAD,xAC,AV.cells,AV.isCell,xAb,xAj,xAk,W2,xAd,xAe,xAi,Nat.reduceAdd,Nat.reduceSub,Nat.reduceLeDiff,Nat.reduceMul,Int.reduceAdd,Int.reduceSub,Int.reduceMul,Int.reduceLT,Int.reduceLE,Int.reduceEq,Int.reduceToNat,Int.reduceNeg,Nat.reduceEqDiff,Nat.reduceBEq,Nat.reduceLT,xNn,hloop,hlt',he]
  ·have hS : S q = false := by
    rw [Bool.eq_false_iff]
    exact fun h => he (hiff.2 h).2
   have he' : (((l.getD r 0 : Nat) : Int) = (q : Nat)) = False := eq_false (by omega)
   have he2 : (((l.getD r 0 : Nat) : Int) == (q : Nat)) = false := by rw [beq_eq_false_iff_ne]; omega
   rw [hS,yDg,a47,xAK]
   simp (maxSteps := 30000000) (disch := first | assumption | omega | (simp only [WL,AV.isCell] <;> omega) | rfl | decide) only [↓reduceIte,WB,xAR,xAc,xAQ,xAD,xAC,AV.cells,AV.isCell,xAb,xAj,xAk,W2,xAd,xAe,xAi,Nat.reduceAdd,Nat.reduceSub,Nat.reduceLeDiff,Nat.reduceMul,Int.reduceAdd,Int.reduceSub,Int.reduceMul,Int.reduceLT,Int.reduceLE,Int.reduceEq,Int.reduceToNat,Int.reduceNeg,Nat.reduceEqDiff,Nat.reduceBEq,Nat.reduceLT,xNn,hloop,hlt',he',he2,yDI]
 ·have hS : S q = false := by
   rw [Bool.eq_false_iff]
   exact fun h => hlt (hiff.2 h).1
  have hlt' : ¬ (r : Int) < (l.length : Nat) := by omega
  rw [hS,yDg,a47,xAK]
  simp (maxSteps := 30000000) (disch := first | assumption | omega | (simp only [WL,AV.isCell] <;> omega) | rfl | decide) only [↓reduceIte,WB,xAR,xAc,xAQ,xAD,xAC,AV.cells,AV.isCell,xAb,xAj,xAk,W2,xAd,xAe,xAi,Nat.reduceAdd,Nat.reduceSub,Nat.reduceLeDiff,Nat.reduceMul,Int.reduceAdd,Int.reduceSub,Int.reduceMul,Int.reduceLT,Int.reduceLE,Int.reduceEq,Int.reduceToNat,Int.reduceNeg,Nat.reduceEqDiff,Nat.reduceBEq,Nat.reduceLT,xNn,hloop,hlt']
def Bld (T : Heap) (v : AV) (es n : Nat) (cs : List AV) : Prop :=
 (v = .sl true 0 [] ∧ n = 0 ∧ cs = []) ∨ ∃ k,v = .own false (k + 1 + 1 + 1) 0 n es ∧ T[k]? = some (.cells false false cs) ∧ cs.length = n * es
def Not (v : AV) (j : Nat) : Prop := ∀ n es,v ≠ .own false (j + 1 + 1 + 1) 0 n es
theorem xHo {l : List Int} {i : Nat} (h : i < l.length) : l.getD i 0 ∈ l := by
 rw [List.getD_eq_getElem?_getD,List.getElem?_eq_getElem h]
 exact List.getElem_mem _
def num (U : Nat → Bool) (q : Int) : Option Int := if U q.toNat = true then some ((xHz U q.toNat : Nat) : Int) else none
def xPQ (U : Nat → Bool) (e : Ed) : Option Ed := if U e.a.toNat = true ∧ U e.b.toNat = true then some ⟨(xHz U e.a.toNat : Nat),(xHz U e.b.toNat : Nat),e.p,e.n⟩ else none
abbrev HT (n : Aut) (U : Nat → Bool) (z : Bool) (k : Nat) (sv fv ev : AV) (T : Heap) : Heap := .cells false false n.cells :: .cells false false [.int .i64 n.vars,.int .i64 (k : Nat),sv,fv,ev] :: .cells false false [.sl z (setL U).length (xEl (setL U))] :: T
theorem xMz {c0 c1 : Blk} {z : Bool} {T : Heap} (U : Nat → Bool) (q : Int) (h0 : 0 ≤ q) (h1 : q < 4096) : L.icall (.func 46 [.ptr 2 0]) [.int .i64 q] (c0 :: c1 :: .cells false false [.sl z (setL U).length (xEl (setL U))] :: T) =
  some (.tup [.int .i64 (xHz U q.toNat : Nat),.bool (U q.toNat)],c0 :: c1 :: .cells false false [.sl z (setL U).length (xEl (setL U))] :: T) := by
 have h := yDJ z U (q := q.toNat) (by omega)
 rw [show ((q.toNat : Nat) : Int) = q by omega] at h
 have hl := xMy U
 rw [yEw,a46]
 simp (maxSteps := 30000000) (disch := first | assumption | omega | (simp only [WL,AV.isCell,xAa] <;> omega) | rfl | decide) only [↓reduceIte,WB,xAR,xAc,xAQ,xAD,xAC,AV.cells,AV.isCell,xAb,xAj,xAk,W2,xAd,xAe,xAi,Nat.reduceAdd,Nat.reduceSub,Nat.reduceLeDiff,Nat.reduceMul,Int.reduceAdd,Int.reduceSub,Int.reduceMul,Int.reduceLT,Int.reduceLE,Int.reduceEq,Int.reduceToNat,Int.reduceNeg,Nat.reduceEqDiff,Nat.reduceBEq,Nat.reduceLT,xAa,xAg,xAq,xAr,h]
theorem xQA {n : Aut} {U : Nat → Bool} {z : Bool} {k0 : Nat} {o1 o2 : AV} (hl : n.st.length < 1000) (hq : ∀ q ∈ n.st,0 ≤ q ∧ q < 4096) : ∀ d i T sv l,i + d = n.st.length → l.length + d < 100000 → Bld T sv 1 l.length (xBd l) →
  ∃ T' sv',L.loop xRt xZo ⟨xRu (.ptr 0 0) (.ptr 1 0) (.func 46 [.ptr 2 0]) (iw n.z1 n.st) (.int .i64 (n.st.length : Nat)) (.int .i64 (i : Nat)),HT n U z k0 sv o1 o2 T⟩ =
   some (.exit 0,⟨xRu (.ptr 0 0) (.ptr 1 0) (.func 46 [.ptr 2 0]) (iw n.z1 n.st) (.int .i64 (n.st.length : Nat)) (.int .i64 (n.st.length : Nat)),HT n U z k0 sv' o1 o2 T'⟩) ∧
   Bld T' sv' 1 (l ++ (n.st.drop i).filterMap (num U)).length (xBd (l ++ (n.st.drop i).filterMap (num U))) ∧
   (∀ j x,Not sv j → T[j]? = some x → T'[j]? = some x ∧ Not sv' j)
 | 0,i,T,sv,l,h,hll,hB => by
  obtain rfl : i = n.st.length := by omega
  refine ⟨T,sv,?_,by rw [List.drop_length]; simpa using hB,fun j x h1 h2 => ⟨h2,h1⟩⟩
  rw [xUj]
  simp (maxSteps := 30000000) (disch := first | assumption | omega | (simp only [WL,AV.isCell,xAa] <;> omega) | rfl | decide) only [↓reduceIte,WB,xAR,xAc,xAQ,xAD,xAC,AV.cells,AV.isCell,xAb,xAj,xAk,W2,xAd,xAe,xAi,Nat.reduceAdd,Nat.reduceSub,Nat.reduceLeDiff,Nat.reduceMul,Int.reduceAdd,Int.reduceSub,Int.reduceMul,Int.reduceLT,Int.reduceLE,Int.reduceEq,Int.reduceToNat,Int.reduceNeg,Nat.reduceEqDiff,Nat.reduceBEq,Nat.reduceLT,xAa,xAg,xAq,xAr,xOq,xRv]
 | d + 1,i,T,sv,l,h,hll,hB => by
  have hlt : (i : Int) < (n.st.length : Nat) := by omega
  have hqi := hq _ (xHo (by omega : i < n.st.length))
  have hnum := fun (c0 c1 : Blk) (T : Heap) => xMz (c0 := c0) (c1 := c1) (z := z) (T := T) U (n.st.getD i 0) hqi.1 hqi.2
  have hd : (n.st.drop i) = n.st.getD i 0 :: n.st.drop (i + 1) := by rw [xBz (by omega)]
  cases hU : U (n.st.getD i 0).toNat with
  | false =>
   rw [hU] at hnum
   have hf : (n.st.drop i).filterMap (num U) = (n.st.drop (i + 1)).filterMap (num U) := by
    rw [hd,List.filterMap_cons]; simp only [num,hU,Bool.false_eq_true,if_false]
   obtain ⟨T',sv',h1,h2,h3⟩ := xQA (U := U) (z := z) (k0 := k0) (o1 := o1) (o2 := o2) hl hq d (i + 1) T sv l (by omega) (by omega) hB
   refine ⟨T',sv',?_,by rw [hf]; exact h2,h3⟩
   rw [xUj]
   simp (maxSteps := 30000000) (disch := first | assumption | omega | (simp only [WL,AV.isCell,xAa] <;> omega) | rfl | decide) only [↓reduceIte,WB,xAR,xAc,xAQ,xAD,xAC,AV.cells,AV.isCell,xAb,xAj,xAk,W2,xAd,xAe,xAi,Nat.reduceAdd,Nat.reduceSub,Nat.reduceLeDiff,Nat.reduceMul,Int.reduceAdd,Int.reduceSub,Int.reduceMul,Int.reduceLT,Int.reduceLE,Int.reduceEq,Int.reduceToNat,Int.reduceNeg,Nat.reduceEqDiff,Nat.reduceBEq,Nat.reduceLT,xAa,xAg,xAq,xAr,xOq,xRv,hlt,hnum,h1]
  | true =>
   rw [hU] at hnum
   have hf : (n.st.drop i).filterMap (num U) = ((xHz U (n.st.getD i 0).toNat : Nat) : Int) :: (n.st.drop (i + 1)).filterMap (num U) := by
    rw [hd,List.filterMap_cons]; simp only [num,hU,if_true]
   rw [hf]
   generalize xHz U (n.st.getD i 0).toNat = r at *
   rcases hB with ⟨rfl,e1,e2⟩ | ⟨k,rfl,e1,e2⟩
   ·have hl0 : l = [] := List.length_eq_zero_iff.1 e1
    subst hl0
    obtain ⟨T',sv',h1,h2,h3⟩ := xQA (U := U) (z := z) (k0 := k0) (o1 := o1) (o2 := o2) hl hq d (i + 1) (T ++ [.cells false false (xBd [(r : Int)])]) (.own false (T.length + 1 + 1 + 1) 0 1 1) [(r : Int)] (by omega) (by simp at hll ⊢; omega)
     (.inr ⟨T.length,rfl,by simp,by rw [xAT]; simp⟩)
    refine ⟨T',sv',?_,?_,fun j x q1 q2 => ?_⟩
    ·simp only [List.cons_append,List.nil_append,xCh] at h1
     rw [xUj]
     simp (maxSteps := 30000000) (disch := first | assumption | omega | (simp only [WL,AV.isCell,xAa] <;> omega) | rfl | decide) only [↓reduceIte,WB,xAR,xAc,xAQ,xAD,xAC,AV.cells,AV.isCell,xAb,xAj,xAk,W2,xAd,xAe,xAi,Nat.reduceAdd,Nat.reduceSub,Nat.reduceLeDiff,Nat.reduceMul,Int.reduceAdd,Int.reduceSub,Int.reduceMul,Int.reduceLT,Int.reduceLE,Int.reduceEq,Int.reduceToNat,Int.reduceNeg,Nat.reduceEqDiff,Nat.reduceBEq,Nat.reduceLT,xAa,xAg,xAq,xAr,xOq,xRv,hlt,hnum,h1]
    ·simpa using h2
    ·have hj := (List.getElem?_eq_some_iff.1 q2).1
     exact h3 j x (fun n es e => by cases e; omega) (by rw [List.getElem?_append_left hj]; exact q2)
   ·have hk := (List.getElem?_eq_some_iff.1 e1).1
    obtain ⟨T',sv',h1,h2,h3⟩ := xQA (U := U) (z := z) (k0 := k0) (o1 := o1) (o2 := o2) hl hq d (i + 1) (T.set k .dead ++ [.cells false false (xBd (l ++ [(r : Int)]))]) (.own false (T.length + 1 + 1 + 1) 0 (l ++ [(r : Int)]).length 1) (l ++ [(r : Int)]) (by omega) (by simp at hll ⊢; omega)
     (.inr ⟨T.length,rfl,by simp,by rw [xAT]; simp⟩)
    refine ⟨T',sv',?_,?_,fun j x q1 q2 => ?_⟩
    ·have hsn : xBd l ++ [AV.int .i64 (r : Int)] = xBd (l ++ [(r : Int)]) := by simp [xBd]
     have hll2 : (l ++ [(r : Int)]).length = l.length + 1 := by simp
     simp only [hll2] at h1
     rw [xUj]
     simp (maxSteps := 30000000) (disch := first | assumption | omega | (simp only [WL,AV.isCell,xAa] <;> omega) | rfl | decide) only [↓reduceIte,WB,xAR,xAc,xAQ,xAD,xAC,AV.cells,AV.isCell,xAb,xAj,xAk,W2,xAd,xAe,xAi,Nat.reduceAdd,Nat.reduceSub,Nat.reduceLeDiff,Nat.reduceMul,Int.reduceAdd,Int.reduceSub,Int.reduceMul,Int.reduceLT,Int.reduceLE,Int.reduceEq,Int.reduceToNat,Int.reduceNeg,Nat.reduceEqDiff,Nat.reduceBEq,Nat.reduceLT,xAa,xAg,xAq,xAr,xOq,xRv,hlt,hnum,e1,hsn,h1]
    ·simpa using h2
    ·have hj := (List.getElem?_eq_some_iff.1 q2).1
     have hjk : j ≠ k := by
      rintro rfl
      exact q1 _ _ rfl
     exact h3 j x (fun n es e => by cases e; omega) (by rw [List.getElem?_append_left (by simpa using hj),List.getElem?_set_ne (fun e => hjk e.symm)]; exact q2)
theorem xQB {n : Aut} {U : Nat → Bool} {z : Bool} {k0 : Nat} {o1 o2 : AV} (hl : n.fi.length < 1000) (hq : ∀ q ∈ n.fi,0 ≤ q ∧ q < 4096) : ∀ d i T sv l,i + d = n.fi.length → l.length + d < 100000 → Bld T sv 1 l.length (xBd l) →
  ∃ T' sv',L.loop xRw xZp ⟨xRx (.ptr 0 0) (.ptr 1 0) (.func 46 [.ptr 2 0]) (iw n.z2 n.fi) (.int .i64 (n.fi.length : Nat)) (.int .i64 (i : Nat)),HT n U z k0 o1 sv o2 T⟩ =
   some (.exit 2,⟨xRx (.ptr 0 0) (.ptr 1 0) (.func 46 [.ptr 2 0]) (iw n.z2 n.fi) (.int .i64 (n.fi.length : Nat)) (.int .i64 (n.fi.length : Nat)),HT n U z k0 o1 sv' o2 T'⟩) ∧
   Bld T' sv' 1 (l ++ (n.fi.drop i).filterMap (num U)).length (xBd (l ++ (n.fi.drop i).filterMap (num U))) ∧
   (∀ j x,Not sv j → T[j]? = some x → T'[j]? = some x ∧ Not sv' j)
 | 0,i,T,sv,l,h,hll,hB => by
  obtain rfl : i = n.fi.length := by omega
  refine ⟨T,sv,?_,by rw [List.drop_length]; simpa using hB,fun j x h1 h2 => ⟨h2,h1⟩⟩
  rw [xUk]
  simp (maxSteps := 30000000) (disch := first | assumption | omega | (simp only [WL,AV.isCell,xAa] <;> omega) | rfl | decide) only [↓reduceIte,WB,xAR,xAc,xAQ,xAD,xAC,AV.cells,AV.isCell,xAb,xAj,xAk,W2,xAd,xAe,xAi,Nat.reduceAdd,Nat.reduceSub,Nat.reduceLeDiff,Nat.reduceMul,Int.reduceAdd,Int.reduceSub,Int.reduceMul,Int.reduceLT,Int.reduceLE,Int.reduceEq,Int.reduceToNat,Int.reduceNeg,Nat.reduceEqDiff,Nat.reduceBEq,Nat.reduceLT,xAa,xAg,xAq,xAr,xOr,xRy]
 | d + 1,i,T,sv,l,h,hll,hB => by
  have hlt : (i : Int) < (n.fi.length : Nat) := by omega
  have hqi := hq _ (xHo (by omega : i < n.fi.length))
  have hnum := fun (c0 c1 : Blk) (T : Heap) => xMz (c0 := c0) (c1 := c1) (z := z) (T := T) U (n.fi.getD i 0) hqi.1 hqi.2
  have hd : (n.fi.drop i) = n.fi.getD i 0 :: n.fi.drop (i + 1) := by rw [xBz (by omega)]
  cases hU : U (n.fi.getD i 0).toNat with
  | false =>
   rw [hU] at hnum
   have hf : (n.fi.drop i).filterMap (num U) = (n.fi.drop (i + 1)).filterMap (num U) := by
    rw [hd,List.filterMap_cons]; simp only [num,hU,Bool.false_eq_true,if_false]
   obtain ⟨T',sv',h1,h2,h3⟩ := xQB (U := U) (z := z) (k0 := k0) (o1 := o1) (o2 := o2) hl hq d (i + 1) T sv l (by omega) (by omega) hB
   refine ⟨T',sv',?_,by rw [hf]; exact h2,h3⟩
   rw [xUk]
   simp (maxSteps := 30000000) (disch := first | assumption | omega | (simp only [WL,AV.isCell,xAa] <;> omega) | rfl | decide) only [↓reduceIte,WB,xAR,xAc,xAQ,xAD,xAC,AV.cells,AV.isCell,xAb,xAj,xAk,W2,xAd,xAe,xAi,Nat.reduceAdd,Nat.reduceSub,Nat.reduceLeDiff,Nat.reduceMul,Int.reduceAdd,Int.reduceSub,Int.reduceMul,Int.reduceLT,Int.reduceLE,Int.reduceEq,Int.reduceToNat,Int.reduceNeg,Nat.reduceEqDiff,Nat.reduceBEq,Nat.reduceLT,xAa,xAg,xAq,xAr,xOr,xRy,hlt,hnum,h1]
  | true =>
   rw [hU] at hnum
   have hf : (n.fi.drop i).filterMap (num U) = ((xHz U (n.fi.getD i 0).toNat : Nat) : Int) :: (n.fi.drop (i + 1)).filterMap (num U) := by
    rw [hd,List.filterMap_cons]; simp only [num,hU,if_true]
   rw [hf]
   generalize xHz U (n.fi.getD i 0).toNat = r at *
   rcases hB with ⟨rfl,e1,e2⟩ | ⟨k,rfl,e1,e2⟩
   ·have hl0 : l = [] := List.length_eq_zero_iff.1 e1
    subst hl0
    obtain ⟨T',sv',h1,h2,h3⟩ := xQB (U := U) (z := z) (k0 := k0) (o1 := o1) (o2 := o2) hl hq d (i + 1) (T ++ [.cells false false (xBd [(r : Int)])]) (.own false (T.length + 1 + 1 + 1) 0 1 1) [(r : Int)] (by omega) (by simp at hll ⊢; omega)
     (.inr ⟨T.length,rfl,by simp,by rw [xAT]; simp⟩)
    refine ⟨T',sv',?_,?_,fun j x q1 q2 => ?_⟩
    ·simp only [List.cons_append,List.nil_append,xCh] at h1
     rw [xUk]
     simp (maxSteps := 30000000) (disch := first | assumption | omega | (simp only [WL,AV.isCell,xAa] <;> omega) | rfl | decide) only [↓reduceIte,WB,xAR,xAc,xAQ,xAD,xAC,AV.cells,AV.isCell,xAb,xAj,xAk,W2,xAd,xAe,xAi,Nat.reduceAdd,Nat.reduceSub,Nat.reduceLeDiff,Nat.reduceMul,Int.reduceAdd,Int.reduceSub,Int.reduceMul,Int.reduceLT,Int.reduceLE,Int.reduceEq,Int.reduceToNat,Int.reduceNeg,Nat.reduceEqDiff,Nat.reduceBEq,Nat.reduceLT,xAa,xAg,xAq,xAr,xOr,xRy,hlt,hnum,h1]
    ·simpa using h2
    ·have hj := (List.getElem?_eq_some_iff.1 q2).1
     exact h3 j x (fun n es e => by cases e; omega) (by rw [List.getElem?_append_left hj]; exact q2)
   ·have hk := (List.getElem?_eq_some_iff.1 e1).1
    obtain ⟨T',sv',h1,h2,h3⟩ := xQB (U := U) (z := z) (k0 := k0) (o1 := o1) (o2 := o2) hl hq d (i + 1) (T.set k .dead ++ [.cells false false (xBd (l ++ [(r : Int)]))]) (.own false (T.length + 1 + 1 + 1) 0 (l ++ [(r : Int)]).length 1) (l ++ [(r : Int)]) (by omega) (by simp at hll ⊢; omega)
     (.inr ⟨T.length,rfl,by simp,by rw [xAT]; simp⟩)
    refine ⟨T',sv',?_,?_,fun j x q1 q2 => ?_⟩
    ·have hsn : xBd l ++ [AV.int .i64 (r : Int)] = xBd (l ++ [(r : Int)]) := by simp [xBd]
     have hll2 : (l ++ [(r : Int)]).length = l.length + 1 := by simp
     simp only [hll2] at h1
     rw [xUk]
     simp (maxSteps := 30000000) (disch := first | assumption | omega | (simp only [WL,AV.isCell,xAa] <;> omega) | rfl | decide) only [↓reduceIte,WB,xAR,xAc,xAQ,xAD,xAC,AV.cells,AV.isCell,xAb,xAj,xAk,W2,xAd,xAe,xAi,Nat.reduceAdd,Nat.reduceSub,Nat.reduceLeDiff,Nat.reduceMul,Int.reduceAdd,Int.reduceSub,Int.reduceMul,Int.reduceLT,Int.reduceLE,Int.reduceEq,Int.reduceToNat,Int.reduceNeg,Nat.reduceEqDiff,Nat.reduceBEq,Nat.reduceLT,xAa,xAg,xAq,xAr,xOr,xRy,hlt,hnum,e1,hsn,h1]
    ·simpa using h2
    ·have hj := (List.getElem?_eq_some_iff.1 q2).1
     have hjk : j ≠ k := by
      rintro rfl
      exact q1 _ _ rfl
     exact h3 j x (fun n es e => by cases e; omega) (by rw [List.getElem?_append_left (by simpa using hj),List.getElem?_set_ne (fun e => hjk e.symm)]; exact q2)
set_option maxHeartbeats 2000000 in
theorem xNG {n : Aut} {U : Nat → Bool} {z : Bool} {k0 : Nat} {o1 o2 : AV} (hl : n.ed.length < 1000) (hq : ∀ e ∈ n.ed,(0 ≤ e.a ∧ e.a < 4096) ∧ 0 ≤ e.b ∧ e.b < 4096) : ∀ d i T ev l,i + d = n.ed.length → l.length + d < 100000 → Bld T ev 4 l.length (edges l) →
  ∃ T' ev',L.loop xRz xZq ⟨xRA (.ptr 1 0) (.func 46 [.ptr 2 0]) (.sl n.z3 n.ed.length (edges n.ed)) (.int .i64 (n.ed.length : Nat)) (.int .i64 (i : Nat)),HT n U z k0 o1 o2 ev T⟩ =
   some (.exit 4,⟨xRA (.ptr 1 0) (.func 46 [.ptr 2 0]) (.sl n.z3 n.ed.length (edges n.ed)) (.int .i64 (n.ed.length : Nat)) (.int .i64 (n.ed.length : Nat)),HT n U z k0 o1 o2 ev' T'⟩) ∧
   Bld T' ev' 4 (l ++ (n.ed.drop i).filterMap (xPQ U)).length (edges (l ++ (n.ed.drop i).filterMap (xPQ U))) ∧
   (∀ j x,Not ev j → T[j]? = some x → T'[j]? = some x ∧ Not ev' j)
 | 0,i,T,ev,l,h,hll,hB => by
  obtain rfl : i = n.ed.length := by omega
  refine ⟨T,ev,?_,by rw [List.drop_length]; simpa using hB,fun j x h1 h2 => ⟨h2,h1⟩⟩
  rw [xRB]
  simp (maxSteps := 30000000) (disch := first | assumption | omega | (simp only [WL,AV.isCell,xAa] <;> omega) | rfl | decide) only [↓reduceIte,WB,xAR,xAc,xAQ,xAD,xAC,AV.cells,AV.isCell,xAb,xAj,xAk,W2,xAd,xAe,xAi,Nat.reduceAdd,Nat.reduceSub,Nat.reduceLeDiff,Nat.reduceMul,Int.reduceAdd,Int.reduceSub,Int.reduceMul,Int.reduceLT,Int.reduceLE,Int.reduceEq,Int.reduceToNat,Int.reduceNeg,Nat.reduceEqDiff,Nat.reduceBEq,Nat.reduceLT,xAa,xAg,xAq,xAr,xNb,xOs]
 | d + 1,i,T,ev,l,h,hll,hB => by
  have hlt : (i : Int) < (n.ed.length : Nat) := by omega
  have hqi := hq _ (xFB (by omega : i < n.ed.length))
  have hna := fun (c0 c1 : Blk) (T : Heap) => xMz (c0 := c0) (c1 := c1) (z := z) (T := T) U (n.ed.getD i e0).a hqi.1.1 hqi.1.2
  have hnb := fun (c0 c1 : Blk) (T : Heap) => xMz (c0 := c0) (c1 := c1) (z := z) (T := T) U (n.ed.getD i e0).b hqi.2.1 hqi.2.2
  have hd : (n.ed.drop i) = n.ed.getD i e0 :: n.ed.drop (i + 1) := by rw [xCV (by omega)]
  have skip : ¬ (U (n.ed.getD i e0).a.toNat = true ∧ U (n.ed.getD i e0).b.toNat = true) → (n.ed.drop i).filterMap (xPQ U) = (n.ed.drop (i + 1)).filterMap (xPQ U) := fun hU => by
   rw [hd,List.filterMap_cons]; simp only [xPQ,if_neg hU]
  have keep : Bld (T ++ [.cells false false (xCX (n.ed.getD i e0))]) ev 4 l.length (edges l) := by
   rcases hB with hB | ⟨k,e1,e2,e3⟩
   ·exact .inl hB
   ·exact .inr ⟨k,e1,by rw [List.getElem?_append_left (List.getElem?_eq_some_iff.1 e2).1]; exact e2,e3⟩
  have old : ∀ (j : Nat) (x : Blk),T[j]? = some x → (T ++ [.cells false false (xCX (n.ed.getD i e0))])[j]? = some x := fun j x q => by
   rw [List.getElem?_append_left (List.getElem?_eq_some_iff.1 q).1]; exact q
  cases hUa : U (n.ed.getD i e0).a.toNat with
  | false =>
   rw [hUa] at hna
   have hf := skip (fun h => by rw [hUa] at h; cases h.1)
   obtain ⟨T',ev',h1,h2,h3⟩ := xNG (U := U) (z := z) (k0 := k0) (o1 := o1) (o2 := o2) hl hq d (i + 1) (T ++ [.cells false false (xCX (n.ed.getD i e0))]) ev l (by omega) (by omega) keep
   refine ⟨T',ev',?_,by rw [hf]; exact h2,fun j x q1 q2 => h3 j x q1 (old j x q2)⟩
   simp only [xCX] at h1
   rw [xRB]
   simp (maxSteps := 30000000) (disch := first | assumption | omega | (simp only [WL,AV.isCell,xAa] <;> omega) | rfl | decide) only [↓reduceIte,WB,xAR,xAc,xAQ,xAD,xAC,AV.cells,AV.isCell,xAb,xAj,xAk,W2,xAd,xAe,xAi,Nat.reduceAdd,Nat.reduceSub,Nat.reduceLeDiff,Nat.reduceMul,Int.reduceAdd,Int.reduceSub,Int.reduceMul,Int.reduceLT,Int.reduceLE,Int.reduceEq,Int.reduceToNat,Int.reduceNeg,Nat.reduceEqDiff,Nat.reduceBEq,Nat.reduceLT,xAa,xAg,xAq,xAr,xNb,xOs,hlt,hna,hnb,h1]
  | true =>
   rw [hUa] at hna
   cases hUb : U (n.ed.getD i e0).b.toNat with
   | false =>
    rw [hUb] at hnb
    have hf := skip (fun h => by rw [hUb] at h; cases h.2)
    obtain ⟨T',ev',h1,h2,h3⟩ := xNG (U := U) (z := z) (k0 := k0) (o1 := o1) (o2 := o2) hl hq d (i + 1) (T ++ [.cells false false (xCX (n.ed.getD i e0))]) ev l (by omega) (by omega) keep
    refine ⟨T',ev',?_,by rw [hf]; exact h2,fun j x q1 q2 => h3 j x q1 (old j x q2)⟩
    simp only [xCX] at h1
    rw [xRB]
    simp (maxSteps := 30000000) (disch := first | assumption | omega | (simp only [WL,AV.isCell,xAa] <;> omega) | rfl | decide) only [↓reduceIte,WB,xAR,xAc,xAQ,xAD,xAC,AV.cells,AV.isCell,xAb,xAj,xAk,W2,xAd,xAe,xAi,Nat.reduceAdd,Nat.reduceSub,Nat.reduceLeDiff,Nat.reduceMul,Int.reduceAdd,Int.reduceSub,Int.reduceMul,Int.reduceLT,Int.reduceLE,Int.reduceEq,Int.reduceToNat,Int.reduceNeg,Nat.reduceEqDiff,Nat.reduceBEq,Nat.reduceLT,xAa,xAg,xAq,xAr,xNb,xOs,hlt,hna,hnb,h1]
   | true =>
    rw [hUb] at hnb
    have hf : (n.ed.drop i).filterMap (xPQ U) = ⟨(xHz U (n.ed.getD i e0).a.toNat : Nat),(xHz U (n.ed.getD i e0).b.toNat : Nat),(n.ed.getD i e0).p,(n.ed.getD i e0).n⟩ :: (n.ed.drop (i + 1)).filterMap (xPQ U) := by
     rw [hd,List.filterMap_cons]; simp only [xPQ,hUa,hUb,and_self,if_true]
    rw [hf]
    generalize xHz U (n.ed.getD i e0).a.toNat = ra at *
    generalize xHz U (n.ed.getD i e0).b.toNat = rb at *
    generalize hne : (⟨(ra : Nat),(rb : Nat),(n.ed.getD i e0).p,(n.ed.getD i e0).n⟩ : Ed) = ne at *
    have hone : edges [ne] = [.int .i64 (ra : Nat),.int .i64 (rb : Nat),.int .u8 ((n.ed.getD i e0).p : Nat),.int .u8 ((n.ed.getD i e0).n : Nat)] := by subst hne; rfl
    have hsn : edges l ++ [AV.int .i64 (ra : Nat),.int .i64 (rb : Nat),.int .u8 ((n.ed.getD i e0).p : Nat),.int .u8 ((n.ed.getD i e0).n : Nat)] = edges (l ++ [ne]) := by
     subst hne; exact xG7 l ⟨(ra : Nat),(rb : Nat),(n.ed.getD i e0).p,(n.ed.getD i e0).n⟩
    have hcut : List.take (l.length * 4) (edges l) = edges l := List.take_of_length_le (by rw [xAa]; omega)
    rcases hB with ⟨rfl,e1,e2⟩ | ⟨k,rfl,e1,e2⟩
    ·have hl0 : l = [] := List.length_eq_zero_iff.1 e1
     subst hl0
     obtain ⟨T',sv',h1,h2,h3⟩ := xNG (U := U) (z := z) (k0 := k0) (o1 := o1) (o2 := o2) hl hq d (i + 1) (T ++ [.cells false false (xCX (n.ed.getD i e0))] ++ [.cells false false (edges [ne])]) (.own false (T.length + 1 + 1 + 1 + 1) 0 1 4) [ne] (by omega) (by simp at hll ⊢; omega)
      (.inr ⟨T.length + 1,rfl,by simp,by rw [xAa]⟩)
     refine ⟨T',sv',?_,?_,fun j x q1 q2 => ?_⟩
     ·simp only [List.append_assoc,List.cons_append,List.nil_append,hone,xCX] at h1
      rw [xRB]
      simp (maxSteps := 30000000) (disch := first | assumption | omega | (simp only [WL,AV.isCell,xAa] <;> omega) | rfl | decide) only [↓reduceIte,WB,xAR,xAc,xAQ,xAD,xAC,AV.cells,AV.isCell,xAb,xAj,xAk,W2,xAd,xAe,xAi,Nat.reduceAdd,Nat.reduceSub,Nat.reduceLeDiff,Nat.reduceMul,Int.reduceAdd,Int.reduceSub,Int.reduceMul,Int.reduceLT,Int.reduceLE,Int.reduceEq,Int.reduceToNat,Int.reduceNeg,Nat.reduceEqDiff,Nat.reduceBEq,Nat.reduceLT,xAa,xAg,xAq,xAr,xNb,xOs,hlt,hna,hnb,h1]
     ·simpa using h2
     ·have hj := (List.getElem?_eq_some_iff.1 q2).1
      exact h3 j x (fun n es e => by cases e; omega) (by rw [List.append_assoc,List.getElem?_append_left hj]; exact q2)
    ·have hk := (List.getElem?_eq_some_iff.1 e1).1
     obtain ⟨T',sv',h1,h2,h3⟩ := xNG (U := U) (z := z) (k0 := k0) (o1 := o1) (o2 := o2) hl hq d (i + 1) (T.set k .dead ++ [.cells false false (xCX (n.ed.getD i e0))] ++ [.cells false false (edges (l ++ [ne]))]) (.own false (T.length + 1 + 1 + 1 + 1) 0 (l ++ [ne]).length 4) (l ++ [ne]) (by omega) (by simp at hll ⊢; omega)
      (.inr ⟨T.length + 1,rfl,by simp,by rw [xAa]⟩)
     refine ⟨T',sv',?_,?_,fun j x q1 q2 => ?_⟩
     ·have hll2 : (l ++ [ne]).length = l.length + 1 := by simp
      have hg : ∀ X : Heap,(T ++ X)[k]? = some (.cells false false (edges l)) := fun X => by rw [List.getElem?_append_left hk]; exact e1
      have hs : ∀ X : Heap,(T ++ X).set k .dead = T.set k .dead ++ X := fun X => by rw [List.set_append_left _ _ hk]
      simp only [List.append_assoc,List.cons_append,List.nil_append,hone,hll2,xCX] at h1
      rw [xRB]
      simp (maxSteps := 30000000) (disch := first | assumption | omega | (simp only [WL,AV.isCell,xAa] <;> omega) | rfl | decide) only [↓reduceIte,WB,xAR,xAc,xAQ,xAD,xAC,AV.cells,AV.isCell,xAb,xAj,xAk,W2,xAd,xAe,xAi,Nat.reduceAdd,Nat.reduceSub,Nat.reduceLeDiff,Nat.reduceMul,Int.reduceAdd,Int.reduceSub,Int.reduceMul,Int.reduceLT,Int.reduceLE,Int.reduceEq,Int.reduceToNat,Int.reduceNeg,Nat.reduceEqDiff,Nat.reduceBEq,Nat.reduceLT,xAa,xAg,xAq,xAr,xNb,xOs,hlt,hna,hnb,hg,hs,hsn,hcut,h1]
     ·simpa using h2
     ·have hj := (List.getElem?_eq_some_iff.1 q2).1
      have hjk : j ≠ k := by
       rintro rfl
       exact q1 _ _ rfl
      exact h3 j x (fun n es e => by cases e; omega) (by rw [List.append_assoc,List.getElem?_append_left (by simpa using hj),List.getElem?_set_ne (fun e => hjk e.symm)]; exact q2)
end Go.Abs.NfaD
