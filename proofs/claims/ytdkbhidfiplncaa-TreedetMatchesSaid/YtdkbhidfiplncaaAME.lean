/- Check and the reference's Check,of any automaton. -/
import Derived.Test.YtdkbhidfiplncaaAbsBun
import Derived.Test.YtdkbhidfiplncaaAMB
import Derived.Test.YtdkbhidfiplncaaAMA
import Derived.Test.YtdkbhidfiplncaaAMD
namespace Go.Abs.Det
open Go Go.Abs
set_option linter.unusedSimpArgs false
set_option linter.unusedVariables false
theorem xY9 (r : Rw) : rwV r = .sl r.z r.l.length (ints r.l) := rfl
theorem xZa (r : Rws) : rwsV r = .sl r.z r.l.length (r.l.map rwV) := rfl
def xZP (n : Nat) (l : List Int) : Bool := l.any fun s => !decide (0 ≤ s ∧ s < (n : Nat))
def xJw (n m : Nat) (r : Rw) : Int := if r.l.length = m then (if xZP n r.l = false then 0 else 8) else 2
def xCt (n m : Nat) : List Rw → Int
 | [] => 0
 | r :: t => if xJw n m r = 0 then xCt n m t else xJw n m r
def xBr (n m : Nat) : List Rws → Int
 | [] => 0
 | s :: t => if s.l.length = n then (if xCt n m s.l = 0 then xBr n m t else xCt n m s.l) else 2
def xB6 (d : Dfa) : Int :=
 if d.vars < 0 ∨ 3 < d.vars then 7 else if d.next.length = 0 then 3 else if 64 < d.next.length then 4 else if d.fin.length ≠ d.next.length then 2 else if ¬ (0 ≤ d.empty ∧ d.empty < (d.next.length : Nat)) then 8
 else xBr d.next.length (two d.vars) d.next
structure Sm (d : Dfa) : Prop where
 n : d.next.length ≤ 100
 f : d.fin.length ≤ 100
 r : ∀ s ∈ d.next,s.l.length ≤ 100
 x : ∀ s ∈ d.next,∀ r ∈ s.l,r.l.length ≤ 100
theorem xFq {α : Type} {a : α} {l : List α} {i : Nat} (h : i < l.length) : l.drop i = l.getD i a :: l.drop (i + 1) := by
 rw [List.getD_eq_getElem?_getD,List.getElem?_eq_getElem h,List.drop_eq_getElem_cons h]; rfl
theorem xQv (n : Nat) (s : Int) (t : List Int) : xZP n (s :: t) = (!decide (0 ≤ s ∧ s < (n : Nat)) || xZP n t) := rfl
section
variable {d : Dfa} {H : xAc} {s43 s44 s45 s53 s54 s55 : AV}
theorem yBL {row : Rw} (hl : row.l.length ≤ 100) (h1 : H[1]? = some (.cells false false [.int .i64 (d.next.length : Nat)])) : ∀ e i,i + e = row.l.length →
  ∃ i' : Nat,L.loop xJA xVD ⟨xFY (.ptr 0 0) (.int .i64 0) (.ptr 1 0) (.func 52 [.ptr 1 0]) s43 s44 s45 s53 s54 s55 (rwV row) (.int .i64 (row.l.length : Nat)) (.int .i64 (i : Nat)),H⟩ =
   some (if xZP d.next.length (row.l.drop i) = false then (.exit 5,⟨xFY (.ptr 0 0) (.int .i64 0) (.ptr 1 0) (.func 52 [.ptr 1 0]) s43 s44 s45 s53 s54 s55 (rwV row) (.int .i64 (row.l.length : Nat)) (.int .i64 (row.l.length : Nat)),H⟩)
    else (.ret,⟨xFY (.ptr 0 0) (.int .i64 8) (.ptr 1 0) (.func 52 [.ptr 1 0]) s43 s44 s45 s53 s54 s55 (rwV row) (.int .i64 (row.l.length : Nat)) (.int .i64 (i' : Nat)),H⟩)) := by
 intro e
 induction e with
 | zero =>
  intro i h
  obtain rfl : i = row.l.length := by omega
  refine ⟨0,?_⟩
  rw [if_pos (by rw [List.drop_length]; rfl),xMM]
  simp (maxSteps := 30000000) (disch := first | assumption | omega | (simp only [WL,AV.isCell,xAa] <;> omega) | rfl | decide) only [xFX,rwV,WB,↓reduceIte,xEc]
 | succ e ih =>
  intro i h
  have hlt : (i : Int) < (row.l.length : Nat) := by omega
  obtain ⟨i',ih'⟩ := ih (i + 1) (by omega)
  have h52 := xMq (s := row.l.getD i 0) h1
  rw [xDM (by omega : i < row.l.length),xQv]
  by_cases c : 0 ≤ row.l.getD i 0 ∧ row.l.getD i 0 < (d.next.length : Nat)
  ·rw [decide_eq_true c] at h52 ⊢
   refine ⟨i',?_⟩
   rw [Bool.not_true,Bool.false_or,xMM]
   unfold rwV at ih'
   by_cases e : xZP d.next.length (row.l.drop (i + 1)) = false
   ·rw [if_pos e] at ih' ⊢
    simp (maxSteps := 30000000) (disch := first | assumption | omega | (simp only [WL,AV.isCell,xAa] <;> omega) | rfl | decide) only [xFX,rwV,WB,hlt,↓reduceIte,W2,h52,xEc,ih']
   ·rw [if_neg e] at ih' ⊢
    simp (maxSteps := 30000000) (disch := first | assumption | omega | (simp only [WL,AV.isCell,xAa] <;> omega) | rfl | decide) only [xFX,rwV,WB,hlt,↓reduceIte,W2,h52,xEc,ih']
  ·rw [decide_eq_false c] at h52 ⊢
   refine ⟨i,?_⟩
   rw [Bool.not_false,Bool.true_or,if_neg (by simp),xMM]
   simp (maxSteps := 30000000) (disch := first | assumption | omega | (simp only [WL,AV.isCell,xAa] <;> omega) | rfl | decide) only [xFX,rwV,WB,hlt,↓reduceIte,W2,h52,xEc]
theorem xZb {m : Nat} {rows : Rws} (hv : d.vars = (m : Nat)) (hv3 : m ≤ 3) (hl : rows.l.length ≤ 100) (hx : ∀ r ∈ rows.l,r.l.length ≤ 100) (h0 : H[0]? = some (.cells false false d.cells)) (h1 : H[1]? = some (.cells false false [.int .i64 (d.next.length : Nat)])) : ∀ e i,i + e = rows.l.length →
  ∃ i' : Nat,L.loop xJB xVE ⟨xFZ (.ptr 0 0) (.int .i64 0) (.ptr 1 0) (.func 52 [.ptr 1 0]) s43 s44 s45 (rwsV rows) (.int .i64 (rows.l.length : Nat)) (.int .i64 (i : Nat)),H⟩ =
   some (if xCt d.next.length (two m) (rows.l.drop i) = 0 then (.exit 3,⟨xFZ (.ptr 0 0) (.int .i64 0) (.ptr 1 0) (.func 52 [.ptr 1 0]) s43 s44 s45 (rwsV rows) (.int .i64 (rows.l.length : Nat)) (.int .i64 (rows.l.length : Nat)),H⟩)
    else (.ret,⟨xFZ (.ptr 0 0) (.int .i64 (xCt d.next.length (two m) (rows.l.drop i))) (.ptr 1 0) (.func 52 [.ptr 1 0]) s43 s44 s45 (rwsV rows) (.int .i64 (rows.l.length : Nat)) (.int .i64 (i' : Nat)),H⟩)) := by
 intro e
 induction e with
 | zero =>
  intro i h
  obtain rfl : i = rows.l.length := by omega
  refine ⟨0,?_⟩
  rw [if_pos (by rw [List.drop_length]; rfl),xJC]
  simp (maxSteps := 30000000) (disch := first | assumption | omega | (simp only [WL,AV.isCell,xAa] <;> omega) | rfl | decide) only [xEI,rwsV,WB,↓reduceIte,xDp]
 | succ e ih =>
  intro i h
  have hlt : (i : Int) < (rows.l.length : Nat) := by omega
  obtain ⟨i',ih'⟩ := ih (i + 1) (by omega)
  have hm := hx _ (xAl (a := r0) (show i < rows.l.length by omega))
  obtain ⟨i2,hr⟩ := yBL (d := d) (H := H) (s43 := s43) (s44 := s44) (s45 := s45) (s53 := .sl rows.z rows.l.length (rows.l.map rwV)) (s54 := .int .i64 (rows.l.length : Nat)) (s55 := .int .i64 (i : Nat)) (row := rows.l.getD i r0) hm h1 _ 0 (Nat.zero_add _)
  have hsh := xBU (v := (m : Nat)) (by omega) (by omega)
  have hv0 : ¬ ((m : Nat) : Int) < 0 := by omega
  simp only [Int.natCast_zero,List.drop_zero] at hr
  simp only [Int.toNat_natCast] at hsh
  rw [xFq (a := r0) (by omega : i < rows.l.length)]
  have et : xCt d.next.length (two m) (rows.l.getD i r0 :: rows.l.drop (i + 1)) = if xJw d.next.length (two m) (rows.l.getD i r0) = 0 then xCt d.next.length (two m) (rows.l.drop (i + 1)) else xJw d.next.length (two m) (rows.l.getD i r0) := rfl
  rw [et]
  unfold Dfa.cells at h0
  rw [hv] at h0
  unfold rwsV at ih' ⊢
  rw [xY9] at hr
  by_cases c1 : (rows.l.getD i r0).l.length = two m
  ·rw [c1] at hr
   by_cases c2 : xZP d.next.length (rows.l.getD i r0).l = false
   ·have e0 : xJw d.next.length (two m) (rows.l.getD i r0) = 0 := by unfold xJw; rw [if_pos c1,if_pos c2]
    rw [if_pos e0]
    rw [if_pos c2] at hr
    refine ⟨i',?_⟩
    rw [xJC]
    by_cases e : xCt d.next.length (two m) (rows.l.drop (i + 1)) = 0
    ·rw [if_pos e] at ih' ⊢
     simp (maxSteps := 30000000) (disch := first | assumption | omega | (simp only [WL,AV.isCell,xAa] <;> omega) | rfl | decide) only [xEI,WB,hlt,↓reduceIte,xQo,rwV,c1,h0,hsh,xEc,hr,xDp,ih']
    ·rw [if_neg e] at ih' ⊢
     simp (maxSteps := 30000000) (disch := first | assumption | omega | (simp only [WL,AV.isCell,xAa] <;> omega) | rfl | decide) only [xEI,WB,hlt,↓reduceIte,xQo,rwV,c1,h0,hsh,xEc,hr,xDp,ih']
   ·have e0 : xJw d.next.length (two m) (rows.l.getD i r0) = 8 := by unfold xJw; rw [if_pos c1,if_neg c2]
    simp only [e0,if_neg (show ¬ (8 : Int) = 0 by decide)]
    rw [if_neg c2] at hr
    refine ⟨i,?_⟩
    rw [xJC]
    simp (maxSteps := 30000000) (disch := first | assumption | omega | (simp only [WL,AV.isCell,xAa] <;> omega) | rfl | decide) only [xEI,WB,hlt,↓reduceIte,xQo,rwV,c1,h0,hsh,xEc,hr,xDp]
  ·have e0 : xJw d.next.length (two m) (rows.l.getD i r0) = 2 := by unfold xJw; rw [if_neg c1]
   simp only [e0,if_neg (show ¬ (2 : Int) = 0 by decide)]
   refine ⟨i,?_⟩
   rw [xJC]
   have c1' : (((rows.l.getD i r0).l.length : Nat) : Int) = ((two m : Nat) : Int) ↔ False := ⟨fun h => c1 (by omega),False.elim⟩
   simp (maxSteps := 30000000) (disch := first | assumption | omega | (simp only [WL,AV.isCell,xAa] <;> omega) | rfl | decide) only [xEI,WB,hlt,↓reduceIte,xQo,rwV,h0,hsh,c1',xDp]
theorem xRo {m : Nat} (hv : d.vars = (m : Nat)) (hv3 : m ≤ 3) (hS : Sm d) (h0 : H[0]? = some (.cells false false d.cells)) (h1 : H[1]? = some (.cells false false [.int .i64 (d.next.length : Nat)])) : ∀ e i,i + e = d.next.length →
  ∃ i' : Nat,L.loop xJD xVF ⟨xF0 (.ptr 0 0) (.int .i64 0) (.ptr 1 0) (.func 52 [.ptr 1 0]) (.sl d.z d.next.length (d.next.map rwsV)) (.int .i64 (d.next.length : Nat)) (.int .i64 (i : Nat)),H⟩ =
   some (if xBr d.next.length (two m) (d.next.drop i) = 0 then (.exit 1,⟨xF0 (.ptr 0 0) (.int .i64 0) (.ptr 1 0) (.func 52 [.ptr 1 0]) (.sl d.z d.next.length (d.next.map rwsV)) (.int .i64 (d.next.length : Nat)) (.int .i64 (d.next.length : Nat)),H⟩)
    else (.ret,⟨xF0 (.ptr 0 0) (.int .i64 (xBr d.next.length (two m) (d.next.drop i))) (.ptr 1 0) (.func 52 [.ptr 1 0]) (.sl d.z d.next.length (d.next.map rwsV)) (.int .i64 (d.next.length : Nat)) (.int .i64 (i' : Nat)),H⟩)) := by
 have hn := hS.n
 intro e
 induction e with
 | zero =>
  intro i h
  obtain rfl : i = d.next.length := by omega
  refine ⟨0,?_⟩
  rw [if_pos (by rw [List.drop_length]; rfl),xJE]
  simp (maxSteps := 30000000) (disch := first | assumption | omega | (simp only [WL,AV.isCell,xAa] <;> omega) | rfl | decide) only [xEJ,WB,↓reduceIte,xEd]
 | succ e ih =>
  intro i h
  have hlt : (i : Int) < (d.next.length : Nat) := by omega
  obtain ⟨i',ih'⟩ := ih (i + 1) (by omega)
  have hm := xAl (a := rr0) (show i < d.next.length by omega)
  have hr' := hS.r _ hm
  obtain ⟨i2,hr⟩ := xZb (d := d) (H := H) (s43 := .sl d.z d.next.length (d.next.map rwsV)) (s44 := .int .i64 (d.next.length : Nat)) (s45 := .int .i64 (i : Nat)) (rows := d.next.getD i rr0) hv hv3 hr' (hS.x _ hm) h0 h1 _ 0 (Nat.zero_add _)
  simp only [Int.natCast_zero,List.drop_zero] at hr
  rw [xFq (a := rr0) (by omega : i < d.next.length)]
  have et : xBr d.next.length (two m) (d.next.getD i rr0 :: d.next.drop (i + 1)) = if (d.next.getD i rr0).l.length = d.next.length then (if xCt d.next.length (two m) (d.next.getD i rr0).l = 0 then xBr d.next.length (two m) (d.next.drop (i + 1)) else xCt d.next.length (two m) (d.next.getD i rr0).l) else 2 := rfl
  rw [et]
  rw [xZa] at hr
  by_cases c1 : (d.next.getD i rr0).l.length = d.next.length
  ·rw [c1] at hr
   simp only [if_pos c1]
   by_cases c2 : xCt d.next.length (two m) (d.next.getD i rr0).l = 0
   ·simp only [if_pos c2] at hr ⊢
    refine ⟨i',?_⟩
    rw [xJE]
    by_cases e : xBr d.next.length (two m) (d.next.drop (i + 1)) = 0
    ·rw [if_pos e] at ih' ⊢
     simp (maxSteps := 30000000) (disch := first | assumption | omega | (simp only [WL,AV.isCell,xAa] <;> omega) | rfl | decide) only [xEJ,WB,hlt,↓reduceIte,xCs,rwsV,c1,h1,xDp,hr,xEd,ih']
    ·rw [if_neg e] at ih' ⊢
     simp (maxSteps := 30000000) (disch := first | assumption | omega | (simp only [WL,AV.isCell,xAa] <;> omega) | rfl | decide) only [xEJ,WB,hlt,↓reduceIte,xCs,rwsV,c1,h1,xDp,hr,xEd,ih']
   ·simp only [if_neg c2] at hr ⊢
    refine ⟨i,?_⟩
    rw [xJE]
    simp (maxSteps := 30000000) (disch := first | assumption | omega | (simp only [WL,AV.isCell,xAa] <;> omega) | rfl | decide) only [xEJ,WB,hlt,↓reduceIte,xCs,rwsV,c1,h1,xDp,hr,xEd]
  ·simp only [if_neg c1,if_neg (show ¬ (2 : Int) = 0 by decide)]
   refine ⟨i,?_⟩
   have c1' : (((d.next.getD i rr0).l.length : Nat) : Int) = ((d.next.length : Nat) : Int) ↔ False := ⟨fun h => c1 (by omega),False.elim⟩
   rw [xJE]
   simp (maxSteps := 30000000) (disch := first | assumption | omega | (simp only [WL,AV.isCell,xAa] <;> omega) | rfl | decide) only [xEJ,WB,hlt,↓reduceIte,xCs,rwsV,h1,c1',xEd]
end
set_option maxHeartbeats 1000000 in
theorem xVt (d : Dfa) (hS : Sm d) : L.pcall 14 [d.av] = some (.int .i64 (xB6 d)) := by
 have hn := hS.n
 have hf := hS.f
 have h52 := fun T => xMq (k := 1) (s := d.empty) (n := d.next.length) (H := .cells false false d.cells :: .cells false false [.int .i64 (d.next.length : Nat)] :: T) rfl
 unfold xB6
 by_cases c1 : d.vars < 0
 ·rw [if_pos (.inl c1)]
  unfold Dfa.av Dfa.cells
  rw [yCt,a14,xAf]
  simp (maxSteps := 30000000) (disch := first | assumption | omega | (simp only [WL,AV.isCell,xAa] <;> omega) | rfl | decide) only [WB,Nat.reduceSub,AV.cells,AV.isCell,↓reduceIte,c1]
 by_cases c2 : 3 < d.vars
 ·rw [if_pos (.inr c2)]
  unfold Dfa.av Dfa.cells
  rw [yCt,a14,xAf]
  simp (maxSteps := 30000000) (disch := first | assumption | omega | (simp only [WL,AV.isCell,xAa] <;> omega) | rfl | decide) only [WB,Nat.reduceSub,AV.cells,AV.isCell,↓reduceIte,c1,c2]
 rw [if_neg (by omega)]
 by_cases c3 : d.next.length = 0
 ·rw [if_pos c3]
  unfold Dfa.av Dfa.cells
  rw [yCt,a14,xAf]
  simp (maxSteps := 30000000) (disch := first | assumption | omega | (simp only [WL,AV.isCell,xAa] <;> omega) | rfl | decide) only [c3,WB,Nat.reduceSub,AV.cells,AV.isCell,↓reduceIte,c1,c2]
 rw [if_neg c3]
 have c3' : ((d.next.length : Nat) : Int) = 0 ↔ False := ⟨fun h => c3 (by omega),False.elim⟩
 by_cases c4 : 64 < d.next.length
 ·rw [if_pos c4]
  have c4' : (64 : Int) < (d.next.length : Nat) := by omega
  unfold Dfa.av Dfa.cells
  rw [yCt,a14,xAf]
  simp (maxSteps := 30000000) (disch := first | assumption | omega | (simp only [WL,AV.isCell,xAa] <;> omega) | rfl | decide) only [WB,Nat.reduceSub,AV.cells,AV.isCell,↓reduceIte,c1,c2,c3',c4']
 rw [if_neg c4]
 have c4' : ¬ (64 : Int) < (d.next.length : Nat) := by omega
 by_cases c5 : d.fin.length = d.next.length
 ·rw [if_neg (fun h => h c5)]
  by_cases c6 : 0 ≤ d.empty ∧ d.empty < (d.next.length : Nat)
  ·rw [if_neg (fun h => h c6)]
   rw [decide_eq_true c6] at h52
   obtain ⟨m,hv⟩ : ∃ m : Nat,d.vars = (m : Nat) := ⟨d.vars.toNat,by omega⟩
   have hr := fun T => xRo (H := .cells false false d.cells :: .cells false false [.int .i64 (d.next.length : Nat)] :: T) hv (by omega) hS rfl rfl d.next.length 0 (by omega)
   obtain ⟨i',hr⟩ := hr []
   simp only [Int.natCast_zero,List.drop_zero] at hr
   have h52' := h52 []
   clear h52
   rw [hv]
   unfold Dfa.av
   unfold Dfa.cells at hr h52' ⊢
   simp only [c5] at hr h52' ⊢
   rw [yCt,a14,xAf]
   by_cases e : xBr d.next.length (two m) d.next = 0
   ·rw [if_pos e] at hr
    rw [e]
    simp (maxSteps := 30000000) (disch := first | assumption | omega | (simp only [WL,AV.isCell,xAa] <;> omega) | rfl | decide) only [WB,Nat.reduceSub,AV.cells,AV.isCell,↓reduceIte,c1,c2,c3',c4',h52',xEd,hr]
   ·rw [if_neg e] at hr
    simp (maxSteps := 30000000) (disch := first | assumption | omega | (simp only [WL,AV.isCell,xAa] <;> omega) | rfl | decide) only [WB,Nat.reduceSub,AV.cells,AV.isCell,↓reduceIte,c1,c2,c3',c4',h52',xEd,hr]
  ·rw [if_pos c6]
   rw [decide_eq_false c6] at h52
   have h52' := h52 []
   clear h52
   unfold Dfa.av
   unfold Dfa.cells at h52' ⊢
   simp only [c5] at h52' ⊢
   rw [yCt,a14,xAf]
   simp (maxSteps := 30000000) (disch := first | assumption | omega | (simp only [WL,AV.isCell,xAa] <;> omega) | rfl | decide) only [WB,Nat.reduceSub,AV.cells,AV.isCell,↓reduceIte,c1,c2,c3',c4',h52']
 ·rw [if_pos c5]
  have c5' : ((d.fin.length : Nat) : Int) = ((d.next.length : Nat) : Int) ↔ False := ⟨fun h => c5 (by omega),False.elim⟩
  unfold Dfa.av Dfa.cells
  rw [yCt,a14,xAf]
  simp (maxSteps := 30000000) (disch := first | assumption | omega | (simp only [WL,AV.isCell,xAa] <;> omega) | rfl | decide) only [WB,Nat.reduceSub,AV.cells,AV.isCell,↓reduceIte,c1,c2,c3',c4',c5']
theorem xDP {l : List Bool} {z z' : Bool} {s4 : AV} {H : xAc} (hl : l.length < 1099511627776) : ∀ d i,i + d = l.length →
  L.loop xN4 yAs ⟨xN5 (.sl z l.length (bools l)) (.sl z' l.length (bools l)) s4 (.int .i64 (i : Nat)),H⟩ = some (.exit 0,⟨xN5 (.sl z l.length (bools l)) (.sl z' l.length (bools l)) s4 (.int .i64 (l.length : Nat)),H⟩)
 | 0,i,h => by
  obtain rfl : i = l.length := by omega
  rw [yCq]
  simp (maxSteps := 30000000) (disch := first | assumption | omega | (simp only [WL,AV.isCell,xAa] <;> omega) | rfl | decide) only [xN3,WB,↓reduceIte,xSn]
 | d + 1,i,h => by
  have hlt : (i : Int) < (l.length : Nat) := by omega
  have hlt' : i < l.length := by omega
  have ih := xDP (z := z) (z' := z') (s4 := s4) (H := H) hl d (i + 1) (by omega)
  have g := xDN hlt'
  rw [yCq]
  generalize l.getD i false = b at *
  cases b
  ·simp (maxSteps := 30000000) (disch := first | assumption | omega | (simp only [WL,AV.isCell,xAa] <;> omega) | rfl | decide) only [xN3,WB,hlt,↓reduceIte,g,xAj,xSn,ih]
  ·simp (maxSteps := 30000000) (disch := first | assumption | omega | (simp only [WL,AV.isCell,xAa] <;> omega) | rfl | decide) only [xN3,WB,hlt,↓reduceIte,g,xAj,xSn,ih]
theorem xVu (z z' : Bool) (l : List Bool) (hl : l.length < 1099511627776) : L.pcall 67 [.sl z l.length (bools l),.sl z' l.length (bools l)] = some (.bool true) := by
 have ih := fun s4 => xDP (z := z) (z' := z') (s4 := s4) (H := []) hl l.length 0 (by omega)
 simp only [Int.natCast_zero] at ih
 rw [yJH,a67,xAf]
 simp (maxSteps := 30000000) (disch := first | assumption | omega | (simp only [WL,AV.isCell,xAa] <;> omega) | rfl | decide) only [WB,Nat.reduceAdd,Nat.reduceSub,↓reduceIte,xSn,ih]
theorem xEo {l : List Rw} {z z' : Bool} {s4 : AV} {H : xAc} (hl : l.length < 1099511627776) (hr : ∀ r ∈ l,r.l.length < 1099511627776) : ∀ d i,i + d = l.length →
  L.loop xNl xZ9 ⟨xNm (.sl z l.length (l.map rwV)) (.sl z' l.length (l.map rwV)) s4 (.int .i64 (i : Nat)),H⟩ = some (.exit 0,⟨xNm (.sl z l.length (l.map rwV)) (.sl z' l.length (l.map rwV)) s4 (.int .i64 (l.length : Nat)),H⟩)
 | 0,i,h => by
  obtain rfl : i = l.length := by omega
  rw [yCc]
  simp (maxSteps := 30000000) (disch := first | assumption | omega | (simp only [WL,AV.isCell,xAa] <;> omega) | rfl | decide) only [xRW,WB,↓reduceIte,xVR]
 | d + 1,i,h => by
  have hlt : (i : Int) < (l.length : Nat) := by omega
  have hlt' : i < l.length := by omega
  have ih := xEo (z := z) (z' := z') (s4 := s4) (H := H) hl hr d (i + 1) (by omega)
  have g := xQo hlt'
  have hm := xCY (l.getD i r0).z (l.getD i r0).z (l.getD i r0).l (hr _ (xAl hlt'))
  unfold iw at hm
  unfold rwV at g ih ⊢
  rw [yCc]
  generalize l.getD i r0 = b at *
  simp (maxSteps := 30000000) (disch := first | assumption | omega | (simp only [WL,AV.isCell,xAa] <;> omega) | rfl | decide) only [xRW,WB,hlt,↓reduceIte,g,xAj,hm,xA0,xAx,xVR,ih]
theorem xZc (z z' : Bool) (l : List Rw) (hl : l.length < 1099511627776) (hr : ∀ r ∈ l,r.l.length < 1099511627776) : L.pcall 39 [.sl z l.length (l.map rwV),.sl z' l.length (l.map rwV)] = some (.bool true) := by
 have ih := fun s4 => xEo (z := z) (z' := z') (s4 := s4) (H := []) hl hr l.length 0 (by omega)
 simp only [Int.natCast_zero] at ih
 have hml : (l.map rwV).length = l.length := List.length_map ..
 generalize l.map rwV = M at *
 rw [yJo,a39,xAf]
 simp (maxSteps := 30000000) (disch := first | assumption | omega | (simp only [WL,AV.isCell,xAa] <;> omega) | rfl | decide) only [WB,Nat.reduceAdd,Nat.reduceSub,↓reduceIte,xVR,ih]
theorem xDk {l : List Rws} {z z' : Bool} {s4 : AV} {H : xAc} (hl : l.length < 1099511627776) (hr : ∀ r ∈ l,r.l.length < 1099511627776 ∧ ∀ w ∈ r.l,w.l.length < 1099511627776) : ∀ d i,i + d = l.length →
  L.loop xN1 yAr ⟨xN2 (.sl z l.length (l.map rwsV)) (.sl z' l.length (l.map rwsV)) s4 (.int .i64 (i : Nat)),H⟩ = some (.exit 0,⟨xN2 (.sl z l.length (l.map rwsV)) (.sl z' l.length (l.map rwsV)) s4 (.int .i64 (l.length : Nat)),H⟩)
 | 0,i,h => by
  obtain rfl : i = l.length := by omega
  rw [yCp]
  simp (maxSteps := 30000000) (disch := first | assumption | omega | (simp only [WL,AV.isCell,xAa] <;> omega) | rfl | decide) only [xSm,WB,↓reduceIte,xWe]
 | d + 1,i,h => by
  have hlt : (i : Int) < (l.length : Nat) := by omega
  have hlt' : i < l.length := by omega
  have ih := xDk (z := z) (z' := z') (s4 := s4) (H := H) hl hr d (i + 1) (by omega)
  have g := xCs hlt'
  have hb := hr _ (xAl (a := rr0) hlt')
  have hm := xZc (l.getD i rr0).z (l.getD i rr0).z (l.getD i rr0).l hb.1 hb.2
  unfold rwsV at g ih ⊢
  rw [yCp]
  generalize l.getD i rr0 = b at *
  simp (maxSteps := 30000000) (disch := first | assumption | omega | (simp only [WL,AV.isCell,xAa] <;> omega) | rfl | decide) only [xSm,WB,hlt,↓reduceIte,g,xAj,hm,xA0,xAx,xWe,ih]
theorem xRp (z z' : Bool) (l : List Rws) (hl : l.length < 1099511627776) (hr : ∀ r ∈ l,r.l.length < 1099511627776 ∧ ∀ w ∈ r.l,w.l.length < 1099511627776) : L.pcall 66 [.sl z l.length (l.map rwsV),.sl z' l.length (l.map rwsV)] = some (.bool true) := by
 have ih := fun s4 => xDk (z := z) (z' := z') (s4 := s4) (H := []) hl hr l.length 0 (by omega)
 simp only [Int.natCast_zero] at ih
 have hml : (l.map rwsV).length = l.length := List.length_map ..
 generalize l.map rwsV = M at *
 rw [yJG,a66,xAf]
 simp (maxSteps := 30000000) (disch := first | assumption | omega | (simp only [WL,AV.isCell,xAa] <;> omega) | rfl | decide) only [WB,Nat.reduceAdd,Nat.reduceSub,↓reduceIte,xWe,ih]
theorem xZd {d : Dfa} (hS : Sm d) : L.pcall 29 [d.av,d.av] = some (.bool true) := by
 obtain ⟨h1,h2,h3,h4⟩ := hS
 have g1 := xRp d.z d.z d.next (by omega) (fun r hr => ⟨by have := h3 r hr; omega,fun w hw => by have := h4 r hr w hw; omega⟩)
 have g2 := xVu d.zf d.zf d.fin (by omega)
 have hml : (d.next.map rwsV).length = d.next.length := List.length_map ..
 unfold Dfa.av Dfa.cells
 generalize d.next.map rwsV = M at *
 rw [yJj,a29,xAf]
 simp (maxSteps := 30000000) (disch := first | assumption | omega | (simp only [WL,AV.isCell,xAa] <;> omega) | rfl | decide) only [WB,Nat.reduceAdd,Nat.reduceSub,AV.cells,AV.isCell,↓reduceIte,g1,xA0,xAx,g2]
theorem xFr {l : List Lf} {z z' : Bool} {s4 : AV} {H : xAc} (hl : l.length < 1099511627776) : ∀ d i,i + d = l.length →
  L.loop xNi xZ8 ⟨xNj (.sl z l.length (lfs l)) (.sl z' l.length (lfs l)) s4 (.int .i64 (i : Nat)),H⟩ = some (.exit 0,⟨xNj (.sl z l.length (lfs l)) (.sl z' l.length (lfs l)) s4 (.int .i64 (l.length : Nat)),H⟩)
 | 0,i,h => by
  obtain rfl : i = l.length := by omega
  rw [yCb]
  simp (maxSteps := 30000000) (disch := first | assumption | omega | (simp only [WL,AV.isCell,xAe] <;> omega) | rfl | decide) only [xRV,WB,↓reduceIte,xVQ]
 | d + 1,i,h => by
  have hlt : (i : Int) < (l.length : Nat) := by omega
  have ih := xFr (z := z) (z' := z') (s4 := s4) (H := H) hl d (i + 1) (by omega)
  rw [yCb]
  simp (maxSteps := 30000000) (disch := first | assumption | omega | (simp only [WL,AV.isCell,xAe] <;> omega) | rfl | decide) only [xRV,WB,hlt,↓reduceIte,xUi,xAj,xBS,eq1,bne_self_eq_false,xVQ,ih]
theorem yBM (z z' : Bool) (l : List Lf) (hl : l.length < 1099511627776) : L.pcall 31 [.sl z l.length (lfs l),.sl z' l.length (lfs l)] = some (.bool true) := by
 have ih := fun s4 => xFr (z := z) (z' := z') (s4 := s4) (H := []) hl l.length 0 (by omega)
 simp only [Int.natCast_zero] at ih
 rw [yJl,a31,xAf]
 simp (maxSteps := 30000000) (disch := first | assumption | omega | (simp only [WL,AV.isCell,xAe] <;> omega) | rfl | decide) only [WB,Nat.reduceAdd,Nat.reduceSub,↓reduceIte,xVQ,ih]
theorem xZe (k : Nat) (vs : List AV) : xB4 k (.tup vs) = .tup (vs.map (xDc k)) := rfl
theorem xZf (k : Nat) (vs : List AV) : xDc k (.agg vs) = .agg (vs.map (xAK k)) := rfl
theorem xZg (k : Nat) (i : IntKind) (n : Int) : xDc k (.int i n) = .int i n := rfl
theorem xZh (k : Nat) (i : IntKind) (n : Int) : xAK k (.int i n) = .int i n := rfl
set_option maxRecDepth 20000 in
set_option maxHeartbeats 8000000 in
theorem xVv {a b : Int} {z zf : Bool} {n m : Nat} {ci cf : List AV} {a0 b0 : Int} {z0 zf0 : Bool} {n0 m0 : Nat} {ci0 cf0 : List AV} {zt z1 : Bool} {t tr : List Lf}
  {G B1 B2 B3 B5 B7 Bl1 Bl2 Bl3 Bl5 Bl7 G1 G2 G3 G4 G5 G6 G7 G8 G9 G10 G11 G12 G13 G14 G15 G16 : xAc}
  {v1 w1 m1 vN wN mN vF wF mF xN yN nN xF yF nF v5 w5 m5 uE pE kE uF pF kF uR pR kR : AV} {e1 e2 e3 e5 e7 eb r : Int} {bb : Bool} {a1 a2 b1 b2 c1 c2 : Int}
  (htr : List.take (tr.length * 3) (lfs t) = lfs tr) (htm : min ((t.length : Nat) : Int) 40 = (tr.length : Nat)) (htt : tr.length ≤ t.length)
  (hr : r < 2) (hr0 : 0 ≤ r)
  (h12 : L.pcall 12 [(.agg [.int .i64 a0,.int .i64 b0,.sl z0 n0 ci0,.sl zf0 m0 cf0])] = some (.agg [.int .i64 a,.int .i64 b,.sl z n ci,.sl zf m cf]))
  (h29 : L.pcall 29 [(.agg [.int .i64 a,.int .i64 b,.sl z n ci,.sl zf m cf]),(.agg [.int .i64 a,.int .i64 b,.sl z n ci,.sl zf m cf])] = some (.bool true))
  (h31 : L.pcall 31 [(.sl z1 tr.length (lfs tr)),.sl zt tr.length (lfs tr)] = some (.bool true))
  (h16 : xAL L 16 [(.agg [.int .i64 a,.int .i64 b,.sl z n ci,.sl zf m cf]),(.sl z1 tr.length (lfs tr))] = some (.tup [v1,.int .i64 e1],B1))
  (h17 : L.pcall 17 [(.agg [.int .i64 a,.int .i64 b,.sl z n ci,.sl zf m cf]),(.sl z1 tr.length (lfs tr))] = some (.tup [m1,.int .i64 e1]))
  (h18 : L.pcall 18 [(.agg [.int .i64 a,.int .i64 b,.sl z n ci,.sl zf m cf]),(.sl z1 tr.length (lfs tr))] = some (.tup [.bool bb,.int .i64 eb]))
  (h19 : L.pcall 19 [(.agg [.int .i64 a,.int .i64 b,.sl z n ci,.sl zf m cf]),(.sl z1 tr.length (lfs tr))] = some (.tup [.bool bb,.int .i64 eb]))
  (h21 : xAL L 21 [(.agg [.int .i64 a,.int .i64 b,.sl z n ci,.sl zf m cf])] = some (.tup [.agg [.int .i64 a1,.int .i64 a2,vN,vF],.int .i64 e2],B2))
  (h22 : L.pcall 22 [(.agg [.int .i64 a,.int .i64 b,.sl z n ci,.sl zf m cf])] = some (.tup [.agg [.int .i64 a1,.int .i64 a2,mN,mF],.int .i64 e2]))
  (h23 : xAL L 23 [(.agg [.int .i64 a,.int .i64 b,.sl z n ci,.sl zf m cf])] = some (.tup [.agg [.int .i64 b1,.int .i64 b2,xN,xF],.int .i64 e3],B3))
  (h24 : L.pcall 24 [(.agg [.int .i64 a,.int .i64 b,.sl z n ci,.sl zf m cf])] = some (.tup [.agg [.int .i64 b1,.int .i64 b2,nN,nF],.int .i64 e3]))
  (h25 : xAL L 25 [(.agg [.int .i64 a,.int .i64 b,.sl z n ci,.sl zf m cf])] = some (.tup [v5,.int .i64 e5],B5))
  (h26 : L.pcall 26 [(.agg [.int .i64 a,.int .i64 b,.sl z n ci,.sl zf m cf])] = some (.tup [m5,.int .i64 e5]))
  (h27 : xAL L 27 [(.agg [.int .i64 a,.int .i64 b,.sl z n ci,.sl zf m cf])] = some (.tup [.agg [.int .i64 c1,.int .i64 c2,uE,uF,uR],.int .i64 e7],B7))
  (h28 : L.pcall 28 [(.agg [.int .i64 a,.int .i64 b,.sl z n ci,.sl zf m cf])] = some (.tup [.agg [.int .i64 c1,.int .i64 c2,kE,kF,kR],.int .i64 e7]))
  (s1 : L.pcall 20 [m1,m1] = some (.bool true))
  (s2 : L.pcall 29 [.agg [.int .i64 a1,.int .i64 a2,mN,mF],.agg [.int .i64 a1,.int .i64 a2,mN,mF]] = some (.bool true))
  (s3 : L.pcall 29 [.agg [.int .i64 b1,.int .i64 b2,nN,nF],.agg [.int .i64 b1,.int .i64 b2,nN,nF]] = some (.bool true))
  (s5 : L.pcall 20 [m5,m5] = some (.bool true))
  (s7 : L.pcall 30 [.agg [.int .i64 c1,.int .i64 c2,kE,kF,kR],.agg [.int .i64 c1,.int .i64 c2,kE,kF,kR]] = some (.bool true))
  (g1 : xDc G.length v1 = w1)
  (g2 : xAK G1.length vN = wN)
  (g3 : xAK G1.length vF = wF)
  (g4 : xAK G4.length xN = yN)
  (g5 : xAK G4.length xF = yF)
  (g6 : xDc G7.length v5 = w5)
  (g7 : xAK G8.length uE = pE)
  (g8 : xAK G8.length uF = pF)
  (g9 : xAK G8.length uR = pR)
  (l1 : B1.map (xAP G.length) = Bl1)
  (l2 : B2.map (xAP G1.length) = Bl2)
  (l3 : B3.map (xAP G4.length) = Bl3)
  (l5 : B5.map (xAP G7.length) = Bl5)
  (l7 : B7.map (xAP G8.length) = Bl7)
  (q1 : G ++ Bl1 = G1)
  (q2 : G1 ++ Bl2 = G2)
  (q3 : G2 ++ [Blk.cells false false [.int .i64 a1,.int .i64 a2,wN,wF]] = G3)
  (q4 : G3 ++ [Blk.cells false false [.int .i64 a1,.int .i64 a2,mN,mF]] = G4)
  (q5 : G4 ++ Bl3 = G5)
  (q6 : G5 ++ [Blk.cells false false [.int .i64 b1,.int .i64 b2,yN,yF]] = G6)
  (q7 : G6 ++ [Blk.cells false false [.int .i64 b1,.int .i64 b2,nN,nF]] = G7)
  (q8 : G7 ++ Bl5 = G8)
  (q9 : G8 ++ Bl7 = G9)
  (q10 : G9 ++ [Blk.cells false false [.int .i64 c1,.int .i64 c2,pE,pF,pR]] = G10)
  (q11 : G10 ++ [Blk.cells false false [.int .i64 c1,.int .i64 c2,kE,kF,kR]] = G11)
  (j1 : ([AV.int .i64 a1,.int .i64 a2,wN,wF]).all AV.isCell = true)
  (j2 : ([AV.int .i64 a1,.int .i64 a2,mN,mF]).all AV.isCell = true)
  (j3 : ([AV.int .i64 b1,.int .i64 b2,yN,yF]).all AV.isCell = true)
  (j4 : ([AV.int .i64 b1,.int .i64 b2,nN,nF]).all AV.isCell = true)
  (j5 : ([AV.int .i64 c1,.int .i64 c2,pE,pF,pR]).all AV.isCell = true)
  (j6 : ([AV.int .i64 c1,.int .i64 c2,kE,kF,kR]).all AV.isCell = true)
  (b0y : G[1]? = some (Blk.cells false false [.int .i64 a,.int .i64 b,.sl z n ci,.sl zf m cf]))
  (b1y : G1[1]? = some (Blk.cells false false [.int .i64 a,.int .i64 b,.sl z n ci,.sl zf m cf]))
  (b3y : G3[1]? = some (Blk.cells false false [.int .i64 a,.int .i64 b,.sl z n ci,.sl zf m cf]))
  (b4y : G4[1]? = some (Blk.cells false false [.int .i64 a,.int .i64 b,.sl z n ci,.sl zf m cf]))
  (b6y : G6[1]? = some (Blk.cells false false [.int .i64 a,.int .i64 b,.sl z n ci,.sl zf m cf]))
  (b7y : G7[1]? = some (Blk.cells false false [.int .i64 a,.int .i64 b,.sl z n ci,.sl zf m cf]))
  (b8y : G8[1]? = some (Blk.cells false false [.int .i64 a,.int .i64 b,.sl z n ci,.sl zf m cf]))
  (b10y : G10[1]? = some (Blk.cells false false [.int .i64 a,.int .i64 b,.sl z n ci,.sl zf m cf]))
  (b11y : G11[1]? = some (Blk.cells false false [.int .i64 a,.int .i64 b,.sl z n ci,.sl zf m cf]))
  (y0 : G11[0]? = some (Blk.cells false false [.int .i64 a0,.int .i64 b0,.sl z0 n0 ci0,.sl zf0 m0 cf0]))
  (x2 : G11[G2.length]? = some (Blk.cells false false [.int .i64 a1,.int .i64 a2,wN,wF]))
  (x3 : G11[G3.length]? = some (Blk.cells false false [.int .i64 a1,.int .i64 a2,mN,mF]))
  (x5 : G11[G5.length]? = some (Blk.cells false false [.int .i64 b1,.int .i64 b2,yN,yF]))
  (x6 : G11[G6.length]? = some (Blk.cells false false [.int .i64 b1,.int .i64 b2,nN,nF]))
  (x9 : G11[G9.length]? = some (Blk.cells false false [.int .i64 c1,.int .i64 c2,pE,pF,pR]))
  (x10 : G11[G10.length]? = some (Blk.cells false false [.int .i64 c1,.int .i64 c2,kE,kF,kR]))
  (f1 : frz 6 G1 w1 = some m1)
  (f1m : frz 6 G1 m1 = some m1)
  (f5 : frz 6 G11 w5 = some m5)
  (f5m : frz 6 G11 m5 = some m5)
  (fmN : frz 5 G11 wN = some mN)
  (fmNm : frz 5 G11 mN = some mN)
  (fmF : frz 5 G11 wF = some mF)
  (fmFm : frz 5 G11 mF = some mF)
  (fnN : frz 5 G11 yN = some nN)
  (fnNm : frz 5 G11 nN = some nN)
  (fnF : frz 5 G11 yF = some nF)
  (fnFm : frz 5 G11 nF = some nF)
  (fkE : frz 5 G11 pE = some kE)
  (fkEm : frz 5 G11 kE = some kE)
  (fkF : frz 5 G11 pF = some kF)
  (fkFm : frz 5 G11 kF = some kF)
  (fkR : frz 5 G11 pR = some kR)
  (fkRm : frz 5 G11 kR = some kR)
  (o1 : L.icall (.func 32 []) [w1] G11 = some (.tup [],G12))
  (z2 : G12[G2.length]? = some (Blk.cells false false [.int .i64 a1,.int .i64 a2,wN,wF]))
  (o2 : L.icall (.func 33 []) [.agg [.int .i64 a1,.int .i64 a2,wN,wF]] G12 = some (.tup [],G13))
  (z3 : G13[G5.length]? = some (Blk.cells false false [.int .i64 b1,.int .i64 b2,yN,yF]))
  (o3 : L.icall (.func 33 []) [.agg [.int .i64 b1,.int .i64 b2,yN,yF]] G13 = some (.tup [],G14))
  (o4 : L.icall (.func 32 []) [w5] G14 = some (.tup [],G15))
  (z4 : G15[G9.length]? = some (Blk.cells false false [.int .i64 c1,.int .i64 c2,pE,pF,pR]))
  (o5 : L.icall (.func 34 []) [.agg [.int .i64 c1,.int .i64 c2,pE,pF,pR]] G15 = some (.tup [],G16)) :
  L.loop xGR xZL ⟨xGS (.sl zt t.length (lfs t)) (.ptr 0 0) (.bool false) (.ptr 1 0) (.sl z1 tr.length (lfs tr)) (.int .i64 r),G⟩ = L.loop xGR xZL ⟨xGS (.sl zt t.length (lfs t)) (.ptr 0 0) (.bool false) (.ptr 1 0) (.sl z1 tr.length (lfs tr)) (.int .i64 (r + 1)),G16⟩ := by
 have hw : IntKind.i64.wrap (r + 1) = r + 1 := by have : r = 0 ∨ r = 1 := by omega
                                                  rcases this with rfl | rfl <;> rfl
 rw [yFs]
 simp (maxSteps := 30000000) (disch := first | assumption | omega | (simp only [WL,AV.isCell,xAe] <;> omega) | rfl | decide) only [xZR,WB,hr,↓reduceIte,b0y,xDs,xBZ,h16,xDt,xZe,g1,xZg,l1,q1,b1y,h17,xA0,xAx,h18,h19,f1,f1m,s1,h21,xZf,xZh,g2,g3,l2,q2,AV.cells,AV.isCell,Nat.reduceAdd,q3,b3y,h22,q4,b4y,h23,g4,g5,l3,q5,q6,b6y,h24,q7,b7y,h25,g6,l5,q8,b8y,h26,h27,g7,g8,g9,l7,q9,q10,b10y,h28,q11,x2,x3,fmN,fmF,fmNm,fmFm,s2,x5,x6,fnN,fnF,fnNm,fnFm,s3,f5,f5m,s5,x9,x10,fkE,fkF,fkR,fkEm,fkFm,fkRm,s7,b11y,y0,h12,h29,xAj,htm,Nat.reduceMul,htr,h31,o1,z2,o2,z3,o3,o4,z4,o5,hw,yDE]
theorem TVS.appd {T : xAc → AV → Prop} {G X : xAc} {v : AV} (hT : ∀ c,T G c → T (G ++ X) c) (h : TVS T G v) : TVS T (G ++ X) v := by
 rcases h with h | ⟨id,cs,rfl,hg,hs,hc⟩
 ·exact .inl h
 ·exact .inr ⟨id,cs,rfl,xAw hg,hs,fun c h => hT c (hc c h)⟩
theorem TV2.appd {G : xAc} {v : AV} (h : TV2 G v) (X : xAc) : TV2 (G ++ X) v := TVS.appd (fun c hc => TVS.appd (fun c hc => hc.appd X) hc) h
theorem TB.appd {G : xAc} {v : AV} (h : TB G v) (X : xAc) : TB (G ++ X) v := by
 rcases h with h | ⟨id,l,rfl,hg,hs⟩
 ·exact .inl h
 ·exact .inr ⟨id,l,rfl,xAw hg,hs⟩
theorem TS0.appd {G : xAc} {v : AV} (h : TS0 G v) (X : xAc) : TS0 (G ++ X) v := by
 rcases h with h | ⟨id,m,l,rfl,hg,hs⟩
 ·exact .inl h
 ·exact .inr ⟨id,m,l,rfl,xAw hg,hs⟩
theorem TR.frzl {H B T' : xAc} {v t : AV} {d : Nat} (h : TR B v) (hf : frz d B v = some t) : frz d (H ++ (B.map (xAP H.length) ++ T')) (xAK H.length v) = some t := by
 rcases h with rfl | ⟨id,l,rfl,hg,hs⟩
 ·exact xI6 hf
 ·have hl : (H ++ (B.map (xAP H.length) ++ T'))[H.length + id]? = some (.cells false false (rls l)) := by rw [xDe hg (xZy l),xUw]
  cases d with
  | zero => cases hf
  | succ d =>
   simp only [frz,hg] at hf
   show frz (d + 1) _ (.own false (H.length + id) 0 l.length 5) = _
   simp only [frz,hl]
   have hfl : ∀ G : xAc,((rls l).drop 0).take (l.length * 5) = rls l := fun _ => by rw [List.drop_zero,List.take_of_length_le (by rw [xAn]; omega)]
   have hr : ∀ (G : xAc) (l : List Rl),(rls l).mapM (frz d G) = some (rls l) := fun G l => by
    induction l with
    | nil => rfl
    | cons e l ih =>
     have : rls (e :: l) = .int .i64 e.l :: .int .i64 e.r :: .int .i64 e.t :: .int .u8 (e.p : Nat) :: .int .u8 (e.n : Nat) :: rls l := rfl
     rw [this]
     simp only [List.mapM_cons,xCy,ih]
     rfl
   rw [hfl B,hr] at hf
   rw [hfl B,hr]
   exact hf
structure OI (B : xAc) (v m : AV) : Prop where
 t : TS0 B v
 f : ∀ d,1 ≤ d → frz d B v = some m
 s : ∃ z n c,m = .sl z n c
structure OD (B : xAc) (vN vF mN mF : AV) : Prop where
 tN : TV2 B vN
 tF : TB B vF
 fN : ∀ d,3 ≤ d → frz d B vN = some mN
 fF : ∀ d,1 ≤ d → frz d B vF = some mF
 sN : ∃ z n c,mN = .sl z n c
 sF : ∃ z n c,mF = .sl z n c
structure ON (B : xAc) (uE uF uR kE kF kR : AV) : Prop where
 tE : TV0 B uE
 tF : TV0 B uF
 tR : TR B uR
 fE : ∀ d,1 ≤ d → frz d B uE = some kE
 fF : ∀ d,1 ≤ d → frz d B uF = some kF
 fR : ∀ d,1 ≤ d → frz d B uR = some kR
 sE : ∃ z n c,kE = .sl z n c
 sF : ∃ z n c,kF = .sl z n c
 sR : ∃ z n c,kR = .sl z n c
theorem xEB {m : AV} (h : ∃ z n c,m = .sl z n c) : AV.isCell m = true := by obtain ⟨z,n,c,rfl⟩ := h; rfl
theorem xFs {m : AV} (h : ∃ z n c,m = .sl z n c) (d : Nat) (H : xAc) : frz d H m = some m := by obtain ⟨z,n,c,rfl⟩ := h; cases d <;> rfl
theorem TS0.isc {G : xAc} {v : AV} (h : TS0 G v) : AV.isCell v = true := by rcases h.cell with rfl | ⟨i,n,rfl⟩ <;> rfl
theorem TVS.isc {T : xAc → AV → Prop} {G : xAc} {v : AV} (h : TVS T G v) : AV.isCell v = true := by rcases h.cell with rfl | ⟨i,n,rfl⟩ <;> rfl
theorem TB.isc {G : xAc} {v : AV} (h : TB G v) : AV.isCell v = true := by rcases h.cell with rfl | ⟨i,n,rfl⟩ <;> rfl
theorem TR.isc {G : xAc} {v : AV} (h : TR G v) : AV.isCell v = true := by rcases h.cell with rfl | ⟨i,n,rfl⟩ <;> rfl
theorem TS0.l2 {G : xAc} {v : AV} (h : TS0 G v) (k : Nat) : xDc k v = xAK k v := by rcases h.cell with rfl | ⟨i,n,rfl⟩ <;> rfl
theorem xZi {p x q R : xAc} (h : p ++ x = q) (e : ∃ T,R = q ++ T) : ∃ T,R = p ++ (x ++ T) := by
 subst h; obtain ⟨T,rfl⟩ := e
 exact ⟨T,List.append_assoc ..⟩
theorem xJf {p x q R : xAc} (h : p ++ x = q) (e : ∃ T,R = q ++ T) : ∃ T,R = p ++ T := by
 obtain ⟨T,h⟩ := xZi h e; exact ⟨_,h⟩
theorem xLH {p q R : xAc} {x : Blk} (h : p ++ [x] = q) (e : ∃ T,R = q ++ T) : R[p.length]? = some x := by
 subst h; obtain ⟨T,rfl⟩ := e
 rw [List.append_assoc]; exact xJo _ _
theorem xFt {p R : xAc} {i : Nat} {x : Blk} (e : ∃ T,R = p ++ T) (h : p[i]? = some x) : R[i]? = some x := by
 obtain ⟨T,rfl⟩ := e; exact xAw h
theorem yHp {x y : Int} {p q : AV} (h1 : AV.isCell p = true) (h2 : AV.isCell q = true) : ([AV.int .i64 x,.int .i64 y,p,q]).all AV.isCell = true := by
 simp only [List.all_cons,List.all_nil,h1,h2,Bool.and_true]; rfl
theorem yJf {x y : Int} {p q r : AV} (h1 : AV.isCell p = true) (h2 : AV.isCell q = true) (h3 : AV.isCell r = true) : ([AV.int .i64 x,.int .i64 y,p,q,r]).all AV.isCell = true := by
 simp only [List.all_cons,List.all_nil,h1,h2,h3,Bool.and_true]; rfl
theorem yIz {x y : Int} {p q : AV} (h : xFw p = true) : ([AV.int .i64 x,.int .i64 y,p,q]).any xFw = true := by
 simp only [List.any_cons,h,Bool.true_or,Bool.or_true]
theorem yJ7 {x y : Int} {p q r : AV} (h : xFw p = true) : ([AV.int .i64 x,.int .i64 y,p,q,r]).any xFw = true := by
 simp only [List.any_cons,h,Bool.true_or,Bool.or_true]
theorem Dfa.odd (d : Dfa) : d.cells.any xFw = true := yIz rfl
structure LwD (d A : Dfa) (G : xAc) : Prop where
 b0 : G[0]? = some (.cells false false d.cells)
 b1 : G[1]? = some (.cells false false A.cells)
theorem yBN {d A : Dfa} {zt z1 : Bool} {t tr : List Lf}
  {G B1 B2 B3 B5 B7 : xAc}
  {v1 m1 vN mN vF mF xN nN xF nF v5 m5 uE kE uF kF uR kR : AV} {e1 e2 e3 e5 e7 eb r : Int} {bb : Bool} {a1 a2 b1 b2 c1 c2 : Int}
  (htr : List.take (tr.length * 3) (lfs t) = lfs tr) (htm : min ((t.length : Nat) : Int) 40 = (tr.length : Nat)) (htt : tr.length ≤ t.length)
  (hr : r < 2) (hr0 : 0 ≤ r) (hI : LwD d A G)
  (h12 : L.pcall 12 [d.av] = some A.av) (h29 : L.pcall 29 [A.av,A.av] = some (.bool true))
  (h16 : xAL L 16 [A.av,tw z1 tr] = some (.tup [v1,.int .i64 e1],B1)) (h17 : L.pcall 17 [A.av,tw z1 tr] = some (.tup [m1,.int .i64 e1]))
  (h18 : L.pcall 18 [A.av,tw z1 tr] = some (.tup [.bool bb,.int .i64 eb])) (h19 : L.pcall 19 [A.av,tw z1 tr] = some (.tup [.bool bb,.int .i64 eb]))
  (h21 : xAL L 21 [A.av] = some (.tup [.agg [.int .i64 a1,.int .i64 a2,vN,vF],.int .i64 e2],B2)) (h22 : L.pcall 22 [A.av] = some (.tup [.agg [.int .i64 a1,.int .i64 a2,mN,mF],.int .i64 e2]))
  (h23 : xAL L 23 [A.av] = some (.tup [.agg [.int .i64 b1,.int .i64 b2,xN,xF],.int .i64 e3],B3)) (h24 : L.pcall 24 [A.av] = some (.tup [.agg [.int .i64 b1,.int .i64 b2,nN,nF],.int .i64 e3]))
  (h25 : xAL L 25 [A.av] = some (.tup [v5,.int .i64 e5],B5)) (h26 : L.pcall 26 [A.av] = some (.tup [m5,.int .i64 e5]))
  (h27 : xAL L 27 [A.av] = some (.tup [.agg [.int .i64 c1,.int .i64 c2,uE,uF,uR],.int .i64 e7],B7)) (h28 : L.pcall 28 [A.av] = some (.tup [.agg [.int .i64 c1,.int .i64 c2,kE,kF,kR],.int .i64 e7]))
  (s1 : L.pcall 20 [m1,m1] = some (.bool true)) (s2 : L.pcall 29 [.agg [.int .i64 a1,.int .i64 a2,mN,mF],.agg [.int .i64 a1,.int .i64 a2,mN,mF]] = some (.bool true))
  (s3 : L.pcall 29 [.agg [.int .i64 b1,.int .i64 b2,nN,nF],.agg [.int .i64 b1,.int .i64 b2,nN,nF]] = some (.bool true)) (s5 : L.pcall 20 [m5,m5] = some (.bool true))
  (s7 : L.pcall 30 [.agg [.int .i64 c1,.int .i64 c2,kE,kF,kR],.agg [.int .i64 c1,.int .i64 c2,kE,kF,kR]] = some (.bool true))
  (O1 : OI B1 v1 m1) (O2 : OD B2 vN vF mN mF) (O3 : OD B3 xN xF nN nF) (O5 : OI B5 v5 m5) (O7 : ON B7 uE uF uR kE kF kR) :
  ∃ G',L.loop xGR xZL ⟨xGS (.sl zt t.length (lfs t)) (.ptr 0 0) (.bool false) (.ptr 1 0) (.sl z1 tr.length (lfs tr)) (.int .i64 r),G⟩ =
   L.loop xGR xZL ⟨xGS (.sl zt t.length (lfs t)) (.ptr 0 0) (.bool false) (.ptr 1 0) (.sl z1 tr.length (lfs tr)) (.int .i64 (r + 1)),G'⟩ ∧ LwD d A G' := by
 obtain ⟨Bl1,l1⟩ : ∃ X,B1.map (xAP G.length) = X := ⟨_,rfl⟩
 obtain ⟨G1,q1⟩ : ∃ X,G ++ Bl1 = X := ⟨_,rfl⟩
 obtain ⟨Bl2,l2⟩ : ∃ X,B2.map (xAP G1.length) = X := ⟨_,rfl⟩
 obtain ⟨G2,q2⟩ : ∃ X,G1 ++ Bl2 = X := ⟨_,rfl⟩
 obtain ⟨wN,g2⟩ : ∃ X,xAK G1.length vN = X := ⟨_,rfl⟩
 obtain ⟨wF,g3⟩ : ∃ X,xAK G1.length vF = X := ⟨_,rfl⟩
 obtain ⟨G3,q3⟩ : ∃ X,G2 ++ [Blk.cells false false [.int .i64 a1,.int .i64 a2,wN,wF]] = X := ⟨_,rfl⟩
 obtain ⟨G4,q4⟩ : ∃ X,G3 ++ [Blk.cells false false [.int .i64 a1,.int .i64 a2,mN,mF]] = X := ⟨_,rfl⟩
 obtain ⟨Bl3,l3⟩ : ∃ X,B3.map (xAP G4.length) = X := ⟨_,rfl⟩
 obtain ⟨G5,q5⟩ : ∃ X,G4 ++ Bl3 = X := ⟨_,rfl⟩
 obtain ⟨yN,g4⟩ : ∃ X,xAK G4.length xN = X := ⟨_,rfl⟩
 obtain ⟨yF,g5⟩ : ∃ X,xAK G4.length xF = X := ⟨_,rfl⟩
 obtain ⟨G6,q6⟩ : ∃ X,G5 ++ [Blk.cells false false [.int .i64 b1,.int .i64 b2,yN,yF]] = X := ⟨_,rfl⟩
 obtain ⟨G7,q7⟩ : ∃ X,G6 ++ [Blk.cells false false [.int .i64 b1,.int .i64 b2,nN,nF]] = X := ⟨_,rfl⟩
 obtain ⟨Bl5,l5⟩ : ∃ X,B5.map (xAP G7.length) = X := ⟨_,rfl⟩
 obtain ⟨G8,q8⟩ : ∃ X,G7 ++ Bl5 = X := ⟨_,rfl⟩
 obtain ⟨Bl7,l7⟩ : ∃ X,B7.map (xAP G8.length) = X := ⟨_,rfl⟩
 obtain ⟨G9,q9⟩ : ∃ X,G8 ++ Bl7 = X := ⟨_,rfl⟩
 obtain ⟨pE,g7⟩ : ∃ X,xAK G8.length uE = X := ⟨_,rfl⟩
 obtain ⟨pF,g8⟩ : ∃ X,xAK G8.length uF = X := ⟨_,rfl⟩
 obtain ⟨pR,g9⟩ : ∃ X,xAK G8.length uR = X := ⟨_,rfl⟩
 obtain ⟨G10,q10⟩ : ∃ X,G9 ++ [Blk.cells false false [.int .i64 c1,.int .i64 c2,pE,pF,pR]] = X := ⟨_,rfl⟩
 obtain ⟨G11,q11⟩ : ∃ X,G10 ++ [Blk.cells false false [.int .i64 c1,.int .i64 c2,kE,kF,kR]] = X := ⟨_,rfl⟩
 obtain ⟨w1,g1⟩ : ∃ X,xDc G.length v1 = X := ⟨_,rfl⟩
 obtain ⟨w5,g6⟩ : ∃ X,xDc G7.length v5 = X := ⟨_,rfl⟩
 have g1' : xAK G.length v1 = w1 := (O1.t.l2 _).symm.trans g1
 have g6' : xAK G7.length v5 = w5 := (O5.t.l2 _).symm.trans g6
 have n11 : ∃ T,G11 = G11 ++ T := ⟨[],by simp⟩
 have n10 := xJf q11 n11
 have n9 := xJf q10 n10
 have n8 := xJf q9 n9
 have n7 := xJf q8 n8
 have n6 := xJf q7 n7
 have n5 := xJf q6 n6
 have n4 := xJf q5 n5
 have n3 := xJf q4 n4
 have n2 := xJf q3 n3
 have n1 := xJf q2 n2
 have n0 := xJf q1 n1
 have k0 : ∃ T,G = G ++ T := ⟨[],by simp⟩
 have tr1 : ∀ {p x q : xAc},(∃ T,p = G ++ T) → p ++ x = q → ∃ T,q = G ++ T := fun {p x q} h e => by
  obtain ⟨T,rfl⟩ := h; exact ⟨T ++ x,by rw [← e,List.append_assoc]⟩
 have k1 := tr1 k0 q1
 have k2 := tr1 k1 q2
 have k3 := tr1 k2 q3
 have k4 := tr1 k3 q4
 have k5 := tr1 k4 q5
 have k6 := tr1 k5 q6
 have k7 := tr1 k6 q7
 have k8 := tr1 k7 q8
 have k9 := tr1 k8 q9
 have k10 := tr1 k9 q10
 have k11 := tr1 k10 q11
 have T1 : TS0 G1 w1 := by rw [← q1,← g1',← l1,← List.append_nil (List.map _ _)]; exact O1.t.lift
 have F1 : frz 6 G1 w1 = some m1 := by rw [← q1,← g1',← l1,← List.append_nil (List.map _ _)]; exact O1.t.frzl (O1.f 6 (by omega))
 have T1' : TS0 G11 w1 := by obtain ⟨T,rfl⟩ := n1; exact T1.appd T
 obtain ⟨tN,tF,fN,fF⟩ : TV2 G11 wN ∧ TB G11 wF ∧ frz 5 G11 wN = some mN ∧ frz 5 G11 wF = some mF := by
  obtain ⟨T,rfl⟩ := xZi q2 n2
  rw [← g2,← g3,← l2]
  exact ⟨O2.tN.lift,O2.tF.lift,O2.tN.frzl (O2.fN 5 (by omega)),O2.tF.frzl (O2.fF 5 (by omega))⟩
 obtain ⟨uN,uF',hN,hF⟩ : TV2 G11 yN ∧ TB G11 yF ∧ frz 5 G11 yN = some nN ∧ frz 5 G11 yF = some nF := by
  obtain ⟨T,rfl⟩ := xZi q5 n5
  rw [← g4,← g5,← l3]
  exact ⟨O3.tN.lift,O3.tF.lift,O3.tN.frzl (O3.fN 5 (by omega)),O3.tF.frzl (O3.fF 5 (by omega))⟩
 obtain ⟨t5,f5⟩ : TS0 G11 w5 ∧ frz 6 G11 w5 = some m5 := by
  obtain ⟨T,rfl⟩ := xZi q8 n8
  rw [← g6',← l5]
  exact ⟨O5.t.lift,O5.t.frzl (O5.f 6 (by omega))⟩
 obtain ⟨rE,rF,rR,f7,f8,f9⟩ : TV0 G11 pE ∧ TV0 G11 pF ∧ TR G11 pR ∧ frz 5 G11 pE = some kE ∧ frz 5 G11 pF = some kF ∧ frz 5 G11 pR = some kR := by
  obtain ⟨T,rfl⟩ := xZi q9 n9
  rw [← g7,← g8,← g9,← l7]
  exact ⟨O7.tE.lift,O7.tF.lift,O7.tR.lift,O7.tE.frzl (O7.fE 5 (by omega)),O7.tF.frzl (O7.fF 5 (by omega)),O7.tR.frzl (O7.fR 5 (by omega))⟩
 have x2 := xLH q3 n3
 have x3 := xLH q4 n4
 have x5 := xLH q6 n6
 have x6 := xLH q7 n7
 have x9 := xLH q10 n10
 have x10 := xLH q11 n11
 have y0 := xFt k11 hI.b0
 have y1 := xFt k11 hI.b1
 have d16 : ([AV.int .i64 a1,.int .i64 a2,wN,wF]).any xFw = true := yIz (TVS.odd tN)
 have d20 : ([AV.int .i64 b1,.int .i64 b2,yN,yF]).any xFw = true := yIz (TVS.odd uN)
 have d28 : ([AV.int .i64 c1,.int .i64 c2,pE,pF,pR]).any xFw = true := yJ7 rE.odd
 obtain ⟨G12,o1,w12⟩ := xZv T1'
 obtain ⟨G13,o2,w13⟩ := yDs (a := a1) (b := a2) (tN.tw w12) (tF.tw w12)
 have tw2 := w12.trans w13
 obtain ⟨G14,o3,w14⟩ := yDs (a := b1) (b := b2) ((uN.tw tw2).appd [.cells false false [.int .i64 a1,.int .i64 a2,wN,wF]]) ((uF'.tw tw2).appd [.cells false false [.int .i64 a1,.int .i64 a2,wN,wF]])
 obtain ⟨G15,o4,w15⟩ := xZv ((((t5.tw tw2).appd [.cells false false [.int .i64 a1,.int .i64 a2,wN,wF]]).tw w14).appd [.cells false false [.int .i64 b1,.int .i64 b2,yN,yF]])
 obtain ⟨G16,o5,w16⟩ := yG3 (a := c1) (b := c2) ((((((rE.tw tw2).appd [.cells false false [.int .i64 a1,.int .i64 a2,wN,wF]]).tw w14).appd [.cells false false [.int .i64 b1,.int .i64 b2,yN,yF]])).tw w15)
  ((((((rF.tw tw2).appd [.cells false false [.int .i64 a1,.int .i64 a2,wN,wF]]).tw w14).appd [.cells false false [.int .i64 b1,.int .i64 b2,yN,yF]])).tw w15) ((((((rR.tw tw2).app [.cells false false [.int .i64 a1,.int .i64 a2,wN,wF]]).tw w14).app [.cells false false [.int .i64 b1,.int .i64 b2,yN,yF]])).tw w15)
 have keep : ∀ {i : Nat} {cs : List AV},G11[i]? = some (.cells false false cs) → cs.any xFw = true → (G13 ++ [Blk.cells false false [.int .i64 a1,.int .i64 a2,wN,wF]])[i]? = some (.cells false false cs) := fun h ho => xAw (tw2.odd h ho)
 have keep2 : ∀ {i : Nat} {cs : List AV},G11[i]? = some (.cells false false cs) → cs.any xFw = true → G15[i]? = some (.cells false false cs) := fun h ho => w15.odd (xAw (w14.odd (keep h ho) ho)) ho
 refine ⟨G16,?_,w16 0 _ (keep2 y0 (Dfa.odd d)) (Dfa.odd d),w16 1 _ (keep2 y1 (Dfa.odd A)) (Dfa.odd A)⟩
 exact xVv htr htm htt hr hr0 h12 h29 (yBM z1 zt tr (by omega)) h16 h17 h18 h19 h21 h22 h23 h24 h25 h26 h27 h28 s1 s2 s3 s5 s7 g1 g2 g3 g4 g5 g6 g7 g8 g9 l1 l2 l3 l5 l7 q1 q2 q3 q4 q5 q6 q7 q8 q9 q10 q11
  (yHp (TVS.isc tN) tF.isc) (yHp (xEB O2.sN) (xEB O2.sF)) (yHp (TVS.isc uN) uF'.isc) (yHp (xEB O3.sN) (xEB O3.sF)) (yJf rE.s.isc rF.s.isc rR.isc) (yJf (xEB O7.sE) (xEB O7.sF) (xEB O7.sR))
  hI.b1 (xFt k1 hI.b1) (xFt k3 hI.b1) (xFt k4 hI.b1) (xFt k6 hI.b1) (xFt k7 hI.b1) (xFt k8 hI.b1) (xFt k10 hI.b1) y1 y0 x2 x3 x5 x6 x9 x10
  F1 (xFs O1.s _ _) f5 (xFs O5.s _ _) fN (xFs O2.sN _ _) fF (xFs O2.sF _ _) hN (xFs O3.sN _ _) hF (xFs O3.sF _ _) f7 (xFs O7.sE _ _) f8 (xFs O7.sF _ _) f9 (xFs O7.sR _ _)
  o1 (w12.odd x2 d16) o2 (keep x5 d20) o3 o4 (keep2 x9 d28) o5
section
variable {d : Dfa}
theorem xZj (hS : Sm d) (he : xB6 d ≠ 0) : ∃ B,xAL L 21 [d.av] = some (.tup [.agg [.int .i64 0,.int .i64 0,.sl true 0 [],.sl true 0 []],.int .i64 (xB6 d)],B) := by
 have h := xVt d hS
 refine ⟨[.cells false false d.cells,.cells false false [.int .i64 0,.int .i64 0,.sl true 0 [],.sl true 0 []]],xA1 ?_ rfl⟩
 generalize xB6 d = e at *
 unfold Dfa.av at h ⊢
 unfold Dfa.cells at h ⊢
 rw [yIJ,a21]
 simp (maxSteps := 30000000) (disch := first | assumption | omega | (simp only [WL,AV.isCell,xAa] <;> omega) | rfl | decide) only [WB,Nat.reduceSub,AV.cells,AV.isCell,↓reduceIte,h,xA0,xAx,he,Nat.reduceAdd]
theorem xZk (hS : Sm d) (he : xB6 d ≠ 0) : ∃ B,xAL L 23 [d.av] = some (.tup [.agg [.int .i64 0,.int .i64 0,.sl true 0 [],.sl true 0 []],.int .i64 (xB6 d)],B) := by
 have h := xVt d hS
 refine ⟨[.cells false false d.cells,.cells false false [.int .i64 0,.int .i64 0,.sl true 0 [],.sl true 0 []]],xA1 ?_ rfl⟩
 generalize xB6 d = e at *
 unfold Dfa.av at h ⊢
 unfold Dfa.cells at h ⊢
 rw [yIL,a23]
 simp (maxSteps := 30000000) (disch := first | assumption | omega | (simp only [WL,AV.isCell,xAa] <;> omega) | rfl | decide) only [WB,Nat.reduceSub,AV.cells,AV.isCell,↓reduceIte,h,xA0,xAx,he,Nat.reduceAdd]
theorem xZl (hS : Sm d) (he : xB6 d ≠ 0) : ∃ B,xAL L 25 [d.av] = some (.tup [.sl true 0 [],.int .i64 (xB6 d)],B) := by
 have h := xVt d hS
 refine ⟨[.cells false false d.cells],xA1 ?_ rfl⟩
 generalize xB6 d = e at *
 unfold Dfa.av at h ⊢
 unfold Dfa.cells at h ⊢
 rw [yIN,a25]
 simp (maxSteps := 30000000) (disch := first | assumption | omega | (simp only [WL,AV.isCell,xAa] <;> omega) | rfl | decide) only [WB,Nat.reduceSub,AV.cells,AV.isCell,↓reduceIte,h,xA0,xAx,he]
theorem xZm (hS : Sm d) (he : xB6 d ≠ 0) : ∃ B,xAL L 27 [d.av] = some (.tup [.agg [.int .i64 0,.int .i64 0,.sl true 0 [],.sl true 0 [],.sl true 0 []],.int .i64 (xB6 d)],B) := by
 have h := xVt d hS
 refine ⟨[.cells false false d.cells,.cells false false [.int .i64 0,.int .i64 0,.sl true 0 [],.sl true 0 [],.sl true 0 []]],xA1 ?_ rfl⟩
 generalize xB6 d = e at *
 unfold Dfa.av at h ⊢
 unfold Dfa.cells at h ⊢
 rw [yHK,a27]
 simp (maxSteps := 30000000) (disch := first | assumption | omega | (simp only [WL,AV.isCell,xAa] <;> omega) | rfl | decide) only [WB,Nat.reduceSub,AV.cells,AV.isCell,↓reduceIte,h,xA0,xAx,he,Nat.reduceAdd]
theorem xVw {D : Da} (hV : Va D) (hn : 512 < D.next.length * (D.next.length * two D.vars)) : ∃ B,xAL L 27 [D.av] = some (.tup [.agg [.int .i64 0,.int .i64 0,.sl true 0 [],.sl true 0 [],.sl true 0 []],.int .i64 4],B) := by
 have hk := xD2 D hV
 have h8 := (xAV hV.v3).1
 have hsh := xBU hV.v0 hV.v3
 have hv : ¬ D.vars < 0 := by have := hV.v0; omega
 have n64 := hV.n64
 have hn2 : 512 < D.next.length * D.next.length * two D.vars := by rw [Nat.mul_assoc]; exact hn
 have hn3 : (512 < ((D.next.length * D.next.length * two D.vars : Nat) : Int)) = True := eq_true (by omega)
 have hm64 : D.next.length * D.next.length ≤ 64 * 64 := Nat.mul_le_mul n64 n64
 have hm8 : D.next.length * D.next.length * two D.vars ≤ 64 * 64 * 8 := Nat.mul_le_mul hm64 h8
 refine ⟨[.cells false false D.cells,.cells false false [.int .i64 0,.int .i64 0,.sl true 0 [],.sl true 0 [],.sl true 0 []]],xA1 ?_ rfl⟩
 unfold Da.av at hk ⊢
 unfold Da.cells at hk ⊢
 rw [yHK,a27]
 simp (maxSteps := 30000000) (disch := first | assumption | omega | (simp only [WL,AV.isCell,xAa] <;> omega) | rfl | decide) only [WB,Nat.reduceSub,AV.cells,AV.isCell,↓reduceIte,hk,xA0,xAx,hsh,xAj,hn3,Nat.reduceAdd]
theorem xLI (hS : Sm d) (he : xB6 d ≠ 0) (z : Bool) (t : List Lf) : L.pcall 53 [d.av,tw z t] = some (.int .i64 (xB6 d)) := by
 have h := xVt d hS
 generalize xB6 d = e at *
 unfold Dfa.av at h ⊢
 unfold Dfa.cells at h ⊢
 rw [yHN,a53,xAf]
 simp (maxSteps := 30000000) (disch := first | assumption | omega | (simp only [WL,AV.isCell,xAa] <;> omega) | rfl | decide) only [WB,Nat.reduceAdd,Nat.reduceSub,AV.cells,AV.isCell,↓reduceIte,h,xA0,xAx,he]
theorem xZn (hS : Sm d) (he : xB6 d ≠ 0) (z : Bool) (t : List Lf) : ∃ B,xAL L 16 [d.av,tw z t] = some (.tup [.sl true 0 [],.int .i64 (xB6 d)],B) := by
 have h := xLI hS he z t
 refine ⟨[.cells false false d.cells],xA1 ?_ rfl⟩
 generalize xB6 d = e at *
 unfold Dfa.av at h ⊢
 unfold Dfa.cells at h ⊢
 rw [yHH,a16]
 simp (maxSteps := 30000000) (disch := first | assumption | omega | (simp only [WL,AV.isCell,xAa] <;> omega) | rfl | decide) only [WB,Nat.reduceAdd,Nat.reduceSub,AV.cells,AV.isCell,↓reduceIte,h,xA0,xAx,he]
theorem xZo (hS : Sm d) (he : xB6 d ≠ 0) (z : Bool) (t : List Lf) : L.pcall 18 [d.av,tw z t] = some (.tup [.bool false,.int .i64 (xB6 d)]) := by
 have h := xLI hS he z t
 generalize xB6 d = e at *
 unfold Dfa.av at h ⊢
 unfold Dfa.cells at h ⊢
 rw [yHJ,a18,xAf]
 simp (maxSteps := 30000000) (disch := first | assumption | omega | (simp only [WL,AV.isCell,xAa] <;> omega) | rfl | decide) only [WB,Nat.reduceAdd,Nat.reduceSub,AV.cells,AV.isCell,↓reduceIte,h,xA0,xAx,he]
end
theorem xQw {D : Da} (hV : Va D) (z : Bool) {T : BT} (ht : T.size ≤ 31) (hx : T.labs (· < two D.vars)) : L.pcall 18 [D.av,tw z (xBj 0 T)] = some (.tup [.bool (D.fin.getD (stB D T).toNat false),.int .i64 0]) := by
 have hl := xAS T 0
 have h1 := xD3 hV z (xBj 0 T) (by omega) (fun e he => by have := (xCf T 0).2 hx e he; have := (xAV hV.v3).1; omega)
 rw [(xFi hV.v0).2 ⟨T,rfl,ht,hx⟩] at h1
 have h2 := yIk hV z ht hx
 have hsl := xCH D T
 have hb := xLp hV hx
 have fl := hV.fl
 have n64 := hV.n64
 have h0 : (stL D T ++ [D.empty]).getD 0 0 = stB D T := by cases T <;> rfl
 have gs : List.take 1 (List.drop 0 (ints (stL D T ++ [D.empty]))) = [.int .i64 (stB D T)] := by rw [← h0]; exact xAr _ _ (by simp)
 have gs0 : List.take 1 (ints (stL D T ++ [D.empty])) = [.int .i64 (stB D T)] := gs
 have gf : List.take 1 (List.drop (stB D T).toNat (bools D.fin)) = [.bool (D.fin.getD (stB D T).toNat false)] := xAr _ _ (by omega)
 unfold tw at h1 h2 ⊢
 simp only [hl] at h1 h2 ⊢
 unfold Da.av at h1 h2 ⊢
 unfold Da.cells at h1 h2 ⊢
 simp only [fl] at h1 h2 ⊢
 rw [yHJ,a18,xAf]
 simp (maxSteps := 30000000) (disch := first | assumption | omega | (simp only [WL,AV.isCell,xAa] <;> omega) | rfl | decide) only [WB,Nat.reduceAdd,Nat.reduceSub,AV.cells,AV.isCell,↓reduceIte,h1,xA0,xAx,h2,xAj,gs0,gf]
theorem xMC {D : Da} (hV : Va D) (z : Bool) (t : List Lf) (hl : t.length < 1099511627776) (hx : ∀ e ∈ t,e.x < 256) (he : xCJ t D.vars.toNat ≠ 0) : L.pcall 18 [D.av,tw z t] = some (.tup [.bool false,.int .i64 (xCJ t D.vars.toNat)]) := by
 have h1 := xD3 hV z t hl hx
 generalize xCJ t D.vars.toNat = e at *
 unfold Da.av at h1 ⊢
 unfold Da.cells at h1 ⊢
 rw [yHJ,a18,xAf]
 simp (maxSteps := 30000000) (disch := first | assumption | omega | (simp only [WL,AV.isCell,xAa] <;> omega) | rfl | decide) only [WB,Nat.reduceAdd,Nat.reduceSub,AV.cells,AV.isCell,↓reduceIte,h1,xA0,xAx,he]
theorem yBO {l : List Int} {i j : Nat} {a : Int} (h : i < l.length) : (l.set i a).getD j 0 = if i = j then a else l.getD j 0 := by
 simp only [List.getD_eq_getElem?_getD,List.getElem?_set]
 split
 ·rename_i e; subst e; simp [h]
 ·rfl
set_option maxHeartbeats 1000000 in
theorem xZp {n m : Nat} {c : List Int} {s2 s5 s7 : AV} (hn : n ≤ 64) (hm : m ≤ 64) (hcl : c.length = n) (hc : ∀ i,i < n → 0 ≤ c.getD i 0 ∧ c.getD i 0 < m) : ∀ e (G : xAc) (F : List Int),e ≤ n → G[3]? = some (.cells false false [.sl false n (ints c)]) → G[5]? = some (.cells false false [.own false 4 0 m 1]) → G[4]? = some (.cells false false (ints F)) → F.length = m →
  (∀ i,e ≤ i → i < n → 0 ≤ F.getD (c.getD i 0).toNat 0 ∧ F.getD (c.getD i 0).toNat 0 < n ∧ c.getD (F.getD (c.getD i 0).toNat 0).toNat 0 = c.getD i 0) →
  ∃ F',L.loop xMU xZY ⟨xMV s2 s5 (.ptr 3 0) s7 (.ptr 5 0) (.int .i64 ((e : Nat) - 1)),G⟩ = some (.exit 0,⟨xMV s2 s5 (.ptr 3 0) s7 (.ptr 5 0) (.int .i64 (-1)),G.set 4 (.cells false false (ints F'))⟩) ∧ F'.length = m ∧
   ∀ i,i < n → 0 ≤ F'.getD (c.getD i 0).toNat 0 ∧ F'.getD (c.getD i 0).toNat 0 < n ∧ c.getD (F'.getD (c.getD i 0).toNat 0).toNat 0 = c.getD i 0 := by
 intro e
 induction e with
 | zero =>
  intro G F _ g3 g5 g4 hF hI
  refine ⟨F,?_,hF,fun i hi => hI i (Nat.zero_le _) hi⟩
  have hG : G.set 4 (.cells false false (ints F)) = G := by
   obtain ⟨h1,h2⟩ := List.getElem?_eq_some_iff.1 g4
   rw [← h2,List.set_getElem_self]
  have e1 : ((0 : Nat) : Int) - 1 = -1 := rfl
  rw [hG,e1,yB5]
  simp (maxSteps := 30000000) (disch := first | assumption | omega | (simp only [WL,AV.isCell,xAa] <;> omega) | rfl | decide) only [xRK,Int.reduceNeg,WB,Int.reduceLE,↓reduceIte,xVH]
 | succ e ih =>
  intro G F he g3 g5 g4 hF hI
  have hce := hc e (by omega)
  have e1 : ((e + 1 : Nat) : Int) - 1 = (e : Nat) := by omega
  have g4l := (List.getElem?_eq_some_iff.1 g4).1
  obtain ⟨F',f1,f2,f3⟩ := ih (G.set 4 (.cells false false (ints (F.set (c.getD e 0).toNat (e : Nat))))) (F.set (c.getD e 0).toNat (e : Nat)) (by omega) (by rw [List.getElem?_set_ne (by omega)]; exact g3) (by rw [List.getElem?_set_ne (by omega)]; exact g5) (List.getElem?_set_self g4l) (by simpa using hF) (fun i hi hin => by
   rw [yBO (by omega)]
   split
   ·rename_i q
    have hci := hc i hin
    refine ⟨by omega,by omega,?_⟩
    rw [Int.toNat_natCast]
    omega
   ·rename_i q
    by_cases hie : i = e
    ·subst hie; exact absurd rfl q
    ·exact hI i (by omega) hin)
  refine ⟨F',?_,f2,f3⟩
  rw [List.set_set] at f1
  have gc : List.take 1 (List.drop e (ints c)) = [.int .i64 (c.getD e 0)] := xAr _ _ (by omega)
  have hge : ¬ ((e : Nat) : Int) < 0 := by omega
  have hge2 : (0 : Int) ≤ (e : Nat) := by omega
  have hwr : ∀ X : Int,List.take (c.getD e 0).toNat (ints F) ++ AV.int .i64 X :: List.drop ((c.getD e 0).toNat + 1) (ints F) = ints (F.set (c.getD e 0).toNat X) := fun X => by
   have hl : (c.getD e 0).toNat < (ints F).length := by rw [xAk]; omega
   have := List.set_eq_take_append_cons_drop (l := ints F) (i := (c.getD e 0).toNat) (a := AV.int .i64 X)
   rw [if_pos hl] at this
   rw [← this]; simp [ints,List.map_set]
  rw [e1,yB5]
  simp (maxSteps := 30000000) (disch := first | assumption | omega | (simp only [WL,AV.isCell,xAa] <;> omega) | rfl | decide) only [xRK,WB,hge2,↓reduceIte,g5,g3,W2,xAj,AV.cells,g4,xVH,f1,Int.reduceNeg]
structure MinI (D : Da) (c F : List Int) (m : Nat) (G : xAc) : Prop where
 b2 : G[2]? = some (.cells false false D.cells)
 b3 : G[3]? = some (.cells false false [.sl false D.next.length (ints c)])
 b4 : G[4]? = some (.cells false false (ints F))
 b5 : G[5]? = some (.cells false false [.own false 4 0 m 1])
structure MinOk (D : Da) (c F : List Int) (m : Nat) : Prop where
 cl : c.length = D.next.length
 cb : ∀ i,i < D.next.length → 0 ≤ c.getD i 0 ∧ c.getD i 0 < m
 fl : F.length = m
 fb : ∀ j,j < m → 0 ≤ F.getD j 0 ∧ F.getD j 0 < D.next.length
 m64 : m ≤ 64
set_option maxRecDepth 10000 in
set_option maxHeartbeats 2000000 in
theorem yG0 {D : Da} {c F : List Int} {m : Nat} {G : xAc} {l r x : Nat} (hV : Va D) (hO : MinOk D c F m) (hI : MinI D c F m G) (hl : l < m) (hr : r < m) (hx : x < two D.vars) :
  L.icall (.func 62 [.ptr 3 0,.ptr 2 0,.ptr 5 0]) [.int .i64 (l : Nat),.int .i64 (r : Nat),.int .i64 (x : Nat)] G = some (.int .i64 (c.getD (nx D (F.getD l 0) (F.getD r 0) x).toNat 0),G) := by
 have n64 := hV.n64
 have m64 := hO.m64
 have h8 := (xAV hV.v3).1
 obtain ⟨b2,b3,b4,b5⟩ := hI
 have hcl := hO.cl
 have hFl := hO.fl
 have sl := hO.fb l hl
 have sr := hO.fb r hr
 have g1 : List.take 1 (List.drop l (ints F)) = [.int .i64 (F.getD l 0)] := xAr _ _ (by omega)
 have g2 : List.take 1 (List.drop r (ints F)) = [.int .i64 (F.getD r 0)] := xAr _ _ (by omega)
 have hnb := xFT hV (x := x) sl sr hx
 generalize hA : F.getD l 0 = A at *
 generalize hB : F.getD r 0 = C at *
 have m1 := xAl (a := ([] : List (List Int))) (show A.toNat < D.next.length by omega)
 have m2 := hV.rl _ m1
 have m3 := xAl (a := ([] : List Int)) (show C.toNat < (D.next.getD A.toNat []).length by omega)
 have m4 := hV.cl _ m1 _ m3
 have gx : List.take 1 (List.drop x (ints ((D.next.getD A.toNat []).getD C.toNat []))) = [.int .i64 (((D.next.getD A.toNat []).getD C.toNat []).getD x 0)] := xAr _ _ (by omega)
 have hnx : nx D A C x = ((D.next.getD A.toNat []).getD C.toNat []).getD x 0 := rfl
 rw [hnx] at hnb ⊢
 generalize hS : ((D.next.getD A.toNat []).getD C.toNat []).getD x 0 = S at *
 have gc : List.take 1 (List.drop S.toNat (ints c)) = [.int .i64 (c.getD S.toNat 0)] := xAr _ _ (by omega)
 unfold Da.cells at b2
 rw [yJC,a62]
 simp (maxSteps := 30000000) (disch := first | assumption | omega | (simp only [WL,AV.isCell,xAa] <;> omega) | rfl | decide) only [WB,Nat.reduceAdd,Nat.reduceSub,b3,b2,b5,b4,W2,hA,xA2,rowsD,m2,hB,xBy,rowT,m4,xAj,hS]
theorem yG1 {D : Da} {c F : List Int} {m : Nat} {G : xAc} {l : Nat} (hV : Va D) (hO : MinOk D c F m) (hI : MinI D c F m G) (hl : l < m) :
  L.icall (.func 63 [.ptr 2 0,.ptr 5 0]) [.int .i64 (l : Nat)] G = some (.bool (D.fin.getD (F.getD l 0).toNat false),G) := by
 have n64 := hV.n64
 have m64 := hO.m64
 have fl := hV.fl
 obtain ⟨b2,b3,b4,b5⟩ := hI
 have hFl := hO.fl
 have sl := hO.fb l hl
 have g1 : List.take 1 (List.drop l (ints F)) = [.int .i64 (F.getD l 0)] := xAr _ _ (by omega)
 generalize hA : F.getD l 0 = A at *
 have gf : List.take 1 (List.drop A.toNat (bools D.fin)) = [.bool (D.fin.getD A.toNat false)] := xAr _ _ (by omega)
 unfold Da.cells at b2
 rw [yJD,a63]
 simp (maxSteps := 30000000) (disch := first | assumption | omega | (simp only [WL,AV.isCell,xAa] <;> omega) | rfl | decide) only [WB,Nat.reduceAdd,Nat.reduceSub,b2,fl,b5,xAj,b4,W2,hA,gf]
def yHq (D : Da) (c F : List Int) (l r x : Nat) : Int := c.getD (nx D (F.getD l 0) (F.getD r 0) x).toNat 0
def yIA (D : Da) (F : List Int) (l : Nat) : Bool := D.fin.getD (F.getD l 0).toNat false
def yBP (D : Da) (c F : List Int) (m : Nat) : Da := ⟨D.vars,c.getD D.empty.toNat 0,xBB D.vars (yHq D c F) m m,xD6 (yIA D F) m⟩
theorem xRq {D : Da} {c : List Int} {m : Nat} (h : Stab D c m) : c.length = D.next.length ∧ (∀ i,i < D.next.length → 0 ≤ c.getD i 0 ∧ c.getD i 0 < m) ∧ (∀ j : Nat,j < m → ∃ i,i < D.next.length ∧ c.getD i 0 = j) ∧ m ≤ D.next.length := by
 obtain ⟨key,e1,e2⟩ := h.num
 have ok := xED key D.next.length
 refine ⟨by rw [e1]; unfold xAO; rw [List.length_map]; exact ok.len,fun i hi => ?_,fun j hj => ?_,by rw [e2]; exact ok.le⟩
 ·rw [e1,xAG,e2]; have := ok.lt hi; omega
 ·rw [e2] at hj
  obtain ⟨i,h1,h2⟩ := ok.hit j hj
  exact ⟨i,h1,by rw [e1,xAG,h2]⟩
theorem xZq {D : Da} {c F : List Int} {m : Nat} (hV : Va D) (hO : MinOk D c F m) (hm : 0 < m) : Va (yBP D c F m) := by
 have h1 := hO.cb D.empty.toNat (by have := hV.e0; have := hV.en; omega)
 refine xEC hV.v0 hV.v3 hm hO.m64 h1.1 h1.2 fun i j x hi hj hx => ?_
 have := xFT hV (x := x) (hO.fb i hi) (hO.fb j hj) hx
 exact hO.cb _ (by omega)
theorem yDy {b : Nat} : ∀ (ids : List Nat) (H : xAc),(∀ j ∈ ids,j ≠ b) → (List.foldl (fun H i => List.modify H i xBG) H ids)[b]? = H[b]?
 | [],H,_ => rfl
 | j :: ids,H,h => by
  rw [List.foldl_cons,yDy ids _ (fun i hi => h i (by simp [hi]))]
  have := h j (by simp)
  rw [List.getElem?_modify]
  simp [this]
theorem yDz : ∀ (ids : List Nat) (H : xAc),(List.foldl (fun H i => List.modify H i xBG) H ids).length = H.length
 | [],H => rfl
 | j :: ids,H => by rw [List.foldl_cons,yDz ids,List.length_modify]
set_option maxRecDepth 10000 in
set_option maxHeartbeats 4000000 in
theorem xRr {D : Da} (hV : Va D) : ∃ c F m,Stab (xDn D) c m ∧ MinOk (xDn D) c F m ∧ (∀ j : Nat,j < m → c.getD (F.getD j 0).toNat 0 = j) ∧ ∃ i k B,xAL L 23 [D.av] = some (.tup [(xDn (yBP (xDn D) c F m)).ow i k,.int .i64 0],B) ∧ DOwn (xDn (yBP (xDn D) c F m)) i k B := by
 have h14 := xD2 D hV
 have h56 := (xC2 hV).2
 have hV2 := xC3 hV
 generalize xDn D = R at *
 obtain ⟨c,m,hS,h60⟩ := xZz hV2
 obtain ⟨cl,cb,ch,cm⟩ := xRq hS
 have n64 := hV2.n64
 have n0 := hV2.n0
 have hm0 : 0 < m := by have := cb 0 n0; omega
 obtain ⟨F,f1,f2,f3⟩ := xZp (n := R.next.length) (m := m) (c := c) (s2 := .ptr 1 0) (s5 := .ptr 2 0) (s7 := .int .i64 (m : Nat)) n64 (by omega) cl cb R.next.length
  [.cells false false D.cells,.cells false false [.int .i64 0,.int .i64 0,.sl true 0 [],.sl true 0 []],.cells false false R.cells,.cells false false [.sl false R.next.length (ints c)],.cells false false (ints (List.replicate m 0)),.cells false false [.own false 4 0 m 1]]
  (List.replicate m 0) (Nat.le_refl _) rfl rfl rfl (by simp) (fun i h1 h2 => by omega)
 have hn1 : ((R.next.length : Nat) : Int) - 1 = ((R.next.length - 1 : Nat) : Int) := by omega
 rw [hn1] at f1
 have hO : MinOk R c F m := ⟨cl,cb,f2,fun j hj => by
  obtain ⟨i,h1,h2⟩ := ch j hj
  have := f3 i h1
  rw [h2,Int.toNat_natCast] at this
  exact ⟨this.1,this.2.1⟩,by omega⟩
 refine ⟨c,F,m,hS,hO,fun j hj => ?_,?_⟩
 ·obtain ⟨i,h1,h2⟩ := ch j hj
  have := f3 i h1
  rw [h2,Int.toNat_natCast] at this
  exact this.2.2
 have hI : MinI R c F m [.cells false false D.cells,.cells false false [.int .i64 0,.int .i64 0,.sl true 0 [],.sl true 0 []],.cells false false R.cells,.cells false false [.sl false R.next.length (ints c)],.cells false false (ints F),.cells false false [.own false 4 0 m 1]] := ⟨rfl,rfl,rfl,rfl⟩
 have hR : Rd R.vars m 6 (.func 62 [.ptr 3 0,.ptr 2 0,.ptr 5 0]) (.func 63 [.ptr 2 0,.ptr 5 0]) (yHq R c F) (yIA R F) (fun G => MinI R c F m G) :=
  ⟨hV2.v0,hV2.v3,hm0,by omega,fun G G' hJ hb => ⟨(hb 2 (by omega)).trans hJ.b2,(hb 3 (by omega)).trans hJ.b3,(hb 4 (by omega)).trans hJ.b4,(hb 5 (by omega)).trans hJ.b5⟩,
   fun G l r x hJ hl hr hx => yG0 hV2 hO hJ hl hr hx,fun G l hJ hl => ⟨[],by rw [List.append_nil]; exact yG1 hV2 hO hJ hl⟩⟩
 obtain ⟨G2,i,k,q1,q2,q3,q4,q5,_,_⟩ := xRs hR hI
 obtain ⟨i5,k5,B5,hq,hB⟩ := xJg (xZq hV2 hO hm0)
 have e0 := hV2.e0
 have en := hV2.en
 have b2 := (q4 2 (by simp)).trans hI.b2
 have b3 := (q4 3 (by simp)).trans hI.b3
 have b1 : G2[1]? = some (.cells false false [.int .i64 0,.int .i64 0,.sl true 0 [],.sl true 0 []]) := (q4 1 (by simp)).trans rfl
 have gc : List.take 1 (List.drop R.empty.toNat (ints c)) = [.int .i64 (c.getD R.empty.toNat 0)] := xAr _ _ (by omega)
 have b2' := fun T => xAw (X := T) b2
 have b3' := fun T => xAw (X := T) b3
 have z1 : ∀ T : xAc,yF1 4 (G2 ++ T) false 0 m 1 (G2 ++ T)[i]? = some (.sl false m ((xBB R.vars (yHq R c F) m m).map rowsD)) := fun T => by
  have := ((q2.frame (G' := G2 ++ T) (by simp) fun d hd b hb => List.getElem?_append_left (by have := (q2 d hd).2 b hb; omega)) 5 (by omega)).1
  rwa [xAY] at this
 have z2 : ∀ T : xAc,yF1 4 (G2 ++ T) false 0 m 1 (G2 ++ T)[k]? = some (.sl false m (bools (xD6 (yIA R F) m))) := fun T => by
  have := ((q3.frame (G' := G2 ++ T) (by simp) fun d hd b hb => List.getElem?_append_left (by have := (q3 d hd).2 b hb; omega)) 5 (by omega)).1
  rwa [xAY] at this
 have w1 := fun (T : xAc) => ((q2.frame (G' := G2 ++ T) (by simp) fun d hd b hb => List.getElem?_append_left (by have := (q2 d hd).2 b hb; omega)) 5 (by omega)).2
 have w2 := fun (T : xAc) => ((q3.frame (G' := G2 ++ T) (by simp) fun d hd b hb => List.getElem?_append_left (by have := (q3 d hd).2 b hb; omega)) 5 (by omega)).2
 simp only [List.length_cons,List.length_nil,xHR] at w1 w2
 have zz : ∀ T : xAc,(List.foldl (fun H i => List.modify H i xBG) (List.modify (G2 ++ T) i xBG) (xXm 4 (G2 ++ T) 0 m 1 (G2 ++ T)[i]? ++ k :: xXm 4 (G2 ++ T) 0 m 1 (G2 ++ T)[k]?))[1]? = some (.cells false false [.int .i64 0,.int .i64 0,.sl true 0 [],.sl true 0 []]) := fun T => by
  rw [yDy _ _ (fun j hj => by
   rcases List.mem_append.1 hj with p | p
   ·have := (w1 T j (by simp [p])).1; omega
   ·have := (w2 T j p).1; omega)]
  have hi6 := (w1 T i (by simp)).1
  rw [List.getElem?_modify]
  have hne : i ≠ 1 := by omega
  have := xAw (X := T) b1
  simp [hne,this]
 have zl : ∀ (T : xAc) (Y : Blk),((List.foldl (fun H i => List.modify H i xBG) (List.modify (G2 ++ T) i xBG) (xXm 4 (G2 ++ T) 0 m 1 (G2 ++ T)[i]? ++ k :: xXm 4 (G2 ++ T) 0 m 1 (G2 ++ T)[k]?)).set 1 Y)[1]? = some Y := fun T Y => List.getElem?_set_self (List.getElem?_eq_some_iff.1 (zz T)).1
 have zy := fun (T Y : xAc) => xAw (X := Y) (zz T)
 have zm := fun (T Y : xAc) (Z : Blk) => List.getElem?_set_self (l := List.foldl (fun H i => List.modify H i xBG) (List.modify (G2 ++ T) i xBG) (xXm 4 (G2 ++ T) 0 m 1 (G2 ++ T)[i]? ++ k :: xXm 4 (G2 ++ T) 0 m 1 (G2 ++ T)[k]?) ++ Y) (i := 1) (a := Z) (List.getElem?_eq_some_iff.1 (zy T Y)).1
 clear w1 w2
 generalize hX : xDn (yBP R c F m) = X at *
 have hdo := fun (H : xAc) => hB.lift H []
 unfold Da.av at h14 h56 h60 hq ⊢
 unfold yBP at hq
 unfold Da.cells at h14 h56 h60 hq f1 q1 b2 b2' ⊢
 simp only [xAE,xBh] at hq
 obtain ⟨T,hT⟩ : ∃ T : xAc,T = [.cells false false [.int .i64 R.vars,.int .i64 (c.getD R.empty.toNat 0),.own false i 0 m 1,.own false k 0 m 1]] := ⟨_,rfl⟩
 have hz1 := (List.getElem?_eq_some_iff.1 (zz T)).1
 obtain ⟨HF,hHF⟩ : ∃ HF,HF = List.foldl (fun H i => List.modify H i xBG) (List.modify (G2 ++ T) i xBG) (xXm 4 (G2 ++ T) 0 m 1 (G2 ++ T)[i]? ++ k :: xXm 4 (G2 ++ T) 0 m 1 (G2 ++ T)[k]?) := ⟨_,rfl⟩
 have hi : L.icall (.func 23 []) [.agg [.int .i64 D.vars,.int .i64 D.empty,.sl false D.next.length (D.next.map rowsD),.sl false D.fin.length (bools D.fin)]] [] =
   some (.tup [X.ow ((G2 ++ T).length + i5) ((G2 ++ T).length + k5),.int .i64 0],(HF ++ B5.map (xAP (G2 ++ T).length)).set 1 (.cells false false [.int .i64 X.vars,.int .i64 X.empty,.own false ((G2 ++ T).length + i5) 0 X.next.length 1,.own false ((G2 ++ T).length + k5) 0 X.fin.length 1])) := by
  rw [hHF,hT]
  clear hHF hT hdo hB hz1
  rw [yIL,a23]
  simp (maxSteps := 30000000) (disch := first | assumption | omega | (simp only [WL,AV.isCell,xAa] <;> omega) | rfl | decide) only [WB,Nat.reduceSub,AV.cells,AV.isCell,↓reduceIte,h14,xA0,xAx,h56,Nat.reduceAdd,h60,xBp,xVH,f1,Int.reduceNeg,q1,b3',b2',W2,xDs,xHR,xAY,z1,z2,xBZ,hq,xDt,xB4,xDc,xAK,zy,zm]
 refine ⟨_,_,_,xA1 hi rfl,?_⟩
 rw [← hHF] at hz1
 have hl : HF.length = (G2 ++ T).length := by rw [hHF,yDz,List.length_modify]
 rw [List.set_append_left _ _ hz1]
 have := hdo (HF.set 1 (.cells false false [.int .i64 X.vars,.int .i64 X.empty,.own false ((G2 ++ T).length + i5) 0 X.next.length 1,.own false ((G2 ++ T).length + k5) 0 X.fin.length 1]))
 rw [List.length_set,hl,List.append_nil] at this
 exact this
end Go.Abs.Det
