/- Plain law: the state of a tree in the renumbered automaton. -/
import Derived.Test.YtdkbhidfiplncaaAMR
namespace Go.Abs.Det
open Go Go.Abs
set_option linter.unusedSimpArgs false
set_option linter.unusedVariables false

end Go.Abs.Det

/- Plain law: what the steps keep, the whole numbering keeps; every state is reached. -/
namespace Go.Abs.Det
open Go Go.Abs
set_option linter.unusedSimpArgs false
set_option linter.unusedVariables false

section
variable {D : Da} {P : List Int → Prop}
end

end Go.Abs.Det

/- Plain law: two automata that tell the same trees apart are numbered alike. -/
namespace Go.Abs.Det
open Go Go.Abs
set_option linter.unusedSimpArgs false
set_option linter.unusedVariables false

def Step (D1 D2 : Da) (o1 o2 : List Int) : Prop := ∃ Ts : List BT, (∀ T ∈ Ts, T.labs (· < two D1.vars)) ∧ o1 = Ts.map (stB D1) ∧ o2 = Ts.map (stB D2)
theorem Step.len {D1 D2 : Da} {o1 o2 : List Int} (h : Step D1 D2 o1 o2) : o1.length = o2.length := by
  obtain ⟨Ts, _, rfl, rfl⟩ := h; simp
end Go.Abs.Det

/- Plain law: the numberings go in step. -/
namespace Go.Abs.Det
open Go Go.Abs
set_option linter.unusedSimpArgs false
set_option linter.unusedVariables false

section
variable {D1 D2 : Da}
theorem xSF {D : Da} {n : Nat} : ∀ e k o, (goK List.length nob (xDi D) n k e o).length ≤ k + e → goK List.length nob (xDi D) n k (e + 1) o = goK List.length nob (xDi D) n k e o
  | 0, k, o, h => by
    have h' : o.length ≤ k := h
    show (if k < o.length then _ else _) = _
    rw [if_neg (by omega)]; rfl
  | e + 1, k, o, h => by
    by_cases c : k < o.length
    · have e1 : ∀ e, goK List.length nob (xDi D) n k (e + 1) o = goK List.length nob (xDi D) n (k + 1) e (goJ nob (xDi D) n k 0 (k + 1) o) := fun e => by
        show (if k < o.length then _ else _) = _
        rw [if_pos c]; rfl
      rw [e1] at h
      rw [e1, e1 e]
      exact xSF e (k + 1) _ (by omega)
    · have e1 : ∀ e, goK List.length nob (xDi D) n k (e + 1) o = o := fun e => by
        show (if k < o.length then _ else _) = _
        rw [if_neg c]
      rw [e1, e1]
end
end Go.Abs.Det

/- Plain law: two automata that tell the same trees apart and accept the same are renumbered alike. -/
namespace Go.Abs.Det
open Go Go.Abs
set_option linter.unusedSimpArgs false
set_option linter.unusedVariables false

theorem xN1 {D : Da} {n : Nat} {o : List Int} {N : Nat} (h : (goK List.length nob (xDi D) n 0 N o).length ≤ N) : ∀ d, goK List.length nob (xDi D) n 0 (N + d) o = goK List.length nob (xDi D) n 0 N o
  | 0 => rfl
  | d + 1 => by
    rw [show N + (d + 1) = N + d + 1 by omega, xSF _ _ _ (by rw [xN1 h d]; omega), xN1 h d]
end Go.Abs.Det

/- Plain law: renumbered alike. -/
namespace Go.Abs.Det
open Go Go.Abs
set_option linter.unusedSimpArgs false
set_option linter.unusedVariables false

theorem xE0 {α : Type} {f g : Nat → α} {n : Nat} (h : ∀ i, i < n → f i = g i) : (List.range n).map f = (List.range n).map g :=
  List.map_congr_left fun i hi => h i (List.mem_range.1 hi)
end Go.Abs.Det

/- Plain law: two automata that tell the same trees apart and accept the same trees have one renumbering. -/
namespace Go.Abs.Det
open Go Go.Abs
set_option linter.unusedSimpArgs false
set_option linter.unusedVariables false

theorem xQg {v : Int} {f g : Nat → Nat → Nat → Int} {n : Nat} (h : ∀ l r x, l < n → r < n → x < two v → f l r x = g l r x) : xEv v f n n = xEv v g n n := by
  unfold xEv
  refine xE0 fun l hl => ?_
  unfold xHm
  refine xE0 fun r hr => ?_
  unfold rvL
  exact xE0 fun x hx => h l r x hl hr hx
theorem xSG {f g : Nat → Bool} {n : Nat} (h : ∀ l, l < n → f l = g l) : xHM f n = xHM g n := xE0 h

end Go.Abs.Det

/- EqualTreeDFA: an automaton is equal to itself. -/
namespace Go.Abs.Det
open Go Go.Abs
set_option linter.unusedSimpArgs false
set_option linter.unusedVariables false

theorem xFK {l : List Bool} {z z' : Bool} {s4 : AV} {H : xAu} (hl : l.length < 1099511627776) : ∀ d i, i + d = l.length →
    L.loop xLN xTs ⟨xLO (.sl z l.length (xCq l)) (.sl z' l.length (xCq l)) s4 (.int .i64 (i : Nat)), H⟩ = some (.exit 0, ⟨xLO (.sl z l.length (xCq l)) (.sl z' l.length (xCq l)) s4 (.int .i64 (l.length : Nat)), H⟩)
  | 0, i, h => by
    obtain rfl : i = l.length := by omega
    rw [xVr]
    simp (maxSteps := 30000000) (disch := first | assumption | omega | (simp only [List.length_cons, List.length_nil, List.length_append, List.length_set, List.length_replicate, List.length_map, List.length_range, List.length_take, List.length_drop, List.all_cons, List.all_nil, AV.isCell, Bool.and_self, Bool.and_true, xAh, xAb, xAe, xAa, xAa, xAC, List.length_map] <;> omega) | rfl | decide) only [xLM, xAp, xAf, xAc, xAk, xAA, opv, List.getD_cons_succ, List.getD_cons_zero, xAq, List.set_cons_succ, List.set_cons_zero, xAi, xBk, xA8, xAl, xAy, xAz, Int.lt_irrefl, decide_false, xAg, xAj, xAd, xAo, xAn, Bool.false_eq_true, ↓reduceIte, xBt, xBc, xA3, xOJ]
  | d + 1, i, h => by
    have hlt : (i : Int) < (l.length : Nat) := by omega
    have hlt' : i < l.length := by omega
    have ih := xFK (z := z) (z' := z') (s4 := s4) (H := H) hl d (i + 1) (by omega)
    have g := xKR hlt'
    rw [xVr]
    generalize l.getD i false = b at *
    cases b
    · simp (maxSteps := 30000000) (disch := first | assumption | omega | (simp only [List.length_cons, List.length_nil, List.length_append, List.length_set, List.length_replicate, List.length_map, List.length_range, List.length_take, List.length_drop, List.all_cons, List.all_nil, AV.isCell, Bool.and_self, Bool.and_true, xAh, xAb, xAe, xAa, xAa, xAC, List.length_map] <;> omega) | rfl | decide) only [xLM, xAp, xAf, xAc, xAk, xAA, opv, List.getD_cons_succ, List.getD_cons_zero, xAq, List.set_cons_succ, List.set_cons_zero, xAi, xBk, xA8, xAl, xAy, xAz, hlt, decide_true, xAg, xAj, xAd, xAo, xAn, ↓reduceIte, xAx, xAr, xBI, List.take_succ_cons, List.take_zero, xA5, xBf, xCx, xBq, xBC, xBo, xCg, xAZ, xAY, Int.toNat_natCast, Nat.mul_one, xBR, xAJ, xBj, g, xAO, xBe, xBn, List.drop_succ_cons, List.drop_zero, xCt, xBy, xQ8, xVw, Bool.not_true, Bool.false_eq_true, xAs, xBa, xCi, xCV, xAv, xOJ, ih]
    · simp (maxSteps := 30000000) (disch := first | assumption | omega | (simp only [List.length_cons, List.length_nil, List.length_append, List.length_set, List.length_replicate, List.length_map, List.length_range, List.length_take, List.length_drop, List.all_cons, List.all_nil, AV.isCell, Bool.and_self, Bool.and_true, xAh, xAb, xAe, xAa, xAa, xAC, List.length_map] <;> omega) | rfl | decide) only [xLM, xAp, xAf, xAc, xAk, xAA, opv, List.getD_cons_succ, List.getD_cons_zero, xAq, List.set_cons_succ, List.set_cons_zero, xAi, xBk, xA8, xAl, xAy, xAz, hlt, decide_true, xAg, xAj, xAd, xAo, xAn, ↓reduceIte, xAx, xAr, xBI, List.take_succ_cons, List.take_zero, xA5, xBf, xCx, xBq, xBC, xBo, xCg, xAZ, xAY, Int.toNat_natCast, Nat.mul_one, xBR, xAJ, xBj, g, xAO, xBe, xBn, List.drop_succ_cons, List.drop_zero, xCt, xBy, xQ8, xVw, Bool.not_true, Bool.false_eq_true, xAs, xBa, xCi, xCV, xAv, xOJ, ih]
theorem xQh (z z' : Bool) (l : List Bool) (hl : l.length < 1099511627776) : L.pcall 67 [.sl z l.length (xCq l), .sl z' l.length (xCq l)] = some (.bool true) := by
  have ih := fun s4 => xFK (z := z) (z' := z') (s4 := s4) (H := []) hl l.length 0 (by omega)
  simp only [Int.natCast_zero] at ih
  rw [yEQ, a67, xA7]
  simp (maxSteps := 30000000) (disch := first | assumption | omega | (simp only [List.length_cons, List.length_nil, List.length_append, List.length_set, List.length_replicate, List.length_map, List.length_range, List.length_take, List.length_drop, List.all_cons, List.all_nil, AV.isCell, Bool.and_self, Bool.and_true, xAh, xAb, xAe, xAa, xAa, xAC, List.length_map] <;> omega) | rfl | decide) only [xAU, List.length_cons, List.length_nil, Nat.zero_add, Nat.reduceAdd, Nat.reduceSub, xCL, List.cons_append, List.nil_append, xAp, xAf, xAc, xAk, xAA, opv, xAq, List.set_cons_succ, List.set_cons_zero, xAi, xAg, xAj, xAd, List.getD_cons_zero, xBk, List.getD_cons_succ, xA8, xAl, xAy, xBm, decide_true, Bool.not_true, xAo, xAn, Bool.false_eq_true, ↓reduceIte, xAx, xAr, xA6, xOJ, ih, xAS, xAW, xAI, xAR, xA2, xAw, xAQ, xBL, xB2]

theorem xGe {l : List (List Int)} {z z' : Bool} {s4 : AV} {H : xAu} (hl : l.length < 1099511627776) (hr : ∀ r ∈ l, r.length < 1099511627776) : ∀ d i, i + d = l.length →
    L.loop xLr xTj ⟨xLs (.sl z l.length (l.map xFk)) (.sl z' l.length (l.map xFk)) s4 (.int .i64 (i : Nat)), H⟩ = some (.exit 0, ⟨xLs (.sl z l.length (l.map xFk)) (.sl z' l.length (l.map xFk)) s4 (.int .i64 (l.length : Nat)), H⟩)
  | 0, i, h => by
    obtain rfl : i = l.length := by omega
    rw [xVh]
    simp (maxSteps := 30000000) (disch := first | assumption | omega | (simp only [List.length_cons, List.length_nil, List.length_append, List.length_set, List.length_replicate, List.length_map, List.length_range, List.length_take, List.length_drop, List.all_cons, List.all_nil, AV.isCell, Bool.and_self, Bool.and_true, xAh, xAb, xAe, xAa, xAa, xAC, List.length_map] <;> omega) | rfl | decide) only [xOv, xAp, xAf, xAc, xAk, xAA, opv, List.getD_cons_succ, List.getD_cons_zero, xAq, List.set_cons_succ, List.set_cons_zero, xAi, xBk, xA8, xAl, xAy, xAz, Int.lt_irrefl, decide_false, xAg, xAj, xAd, xAo, xAn, Bool.false_eq_true, ↓reduceIte, xBt, xBc, xA3, xQF]
  | d + 1, i, h => by
    have hlt : (i : Int) < (l.length : Nat) := by omega
    have hlt' : i < l.length := by omega
    have ih := xGe (z := z) (z' := z') (s4 := s4) (H := H) hl hr d (i + 1) (by omega)
    have g := xI8 hlt'
    have hm := xR9 false false (l.getD i []) (hr _ (xBF hlt'))
    unfold iw at hm
    rw [xVh]
    generalize l.getD i [] = b at *
    simp (maxSteps := 30000000) (disch := first | assumption | omega | (simp only [List.length_cons, List.length_nil, List.length_append, List.length_set, List.length_replicate, List.length_map, List.length_range, List.length_take, List.length_drop, List.all_cons, List.all_nil, AV.isCell, Bool.and_self, Bool.and_true, xAh, xAb, xAe, xAa, xAa, xAC, List.length_map] <;> omega) | rfl | decide) only [xOv, xAp, xAf, xAc, xAk, xAA, opv, List.getD_cons_succ, List.getD_cons_zero, xAq, List.set_cons_succ, List.set_cons_zero, xAi, xBk, xA8, xAl, xAy, xAz, hlt, decide_true, xAg, xAj, xAd, xAo, xAn, ↓reduceIte, xAx, xAr, xBI, List.take_succ_cons, List.take_zero, xA5, xBf, xCx, xBq, xBC, xBo, xCg, xAZ, xAY, Int.toNat_natCast, Nat.mul_one, xBR, xAJ, xBj, g, xFk, xAO, xBe, xBn, List.drop_succ_cons, List.drop_zero, xCt, xBy, xBJ, List.map_cons, List.map_nil, xBi, xBL, List.mapM_cons, xCa, List.mapM_nil, Option.pure_def, Option.bind_eq_bind, Option.bind_some, xBh, hm, xBg, xDT, xCw, xHI, xE7, Bool.not_true, Bool.false_eq_true, xAs, xBa, xCi, xCV, xAv, xQF, ih]
theorem xSH (z z' : Bool) (l : List (List Int)) (hl : l.length < 1099511627776) (hr : ∀ r ∈ l, r.length < 1099511627776) : L.pcall 39 [.sl z l.length (l.map xFk), .sl z' l.length (l.map xFk)] = some (.bool true) := by
  have ih := fun s4 => xGe (z := z) (z' := z') (s4 := s4) (H := []) hl hr l.length 0 (by omega)
  simp only [Int.natCast_zero] at ih
  rw [yEJ, a39, xA7]
  simp (maxSteps := 30000000) (disch := first | assumption | omega | (simp only [List.length_cons, List.length_nil, List.length_append, List.length_set, List.length_replicate, List.length_map, List.length_range, List.length_take, List.length_drop, List.all_cons, List.all_nil, AV.isCell, Bool.and_self, Bool.and_true, xAh, xAb, xAe, xAa, xAa, xAC, List.length_map] <;> omega) | rfl | decide) only [xAU, List.length_cons, List.length_nil, Nat.zero_add, Nat.reduceAdd, Nat.reduceSub, xCL, List.cons_append, List.nil_append, xAp, xAf, xAc, xAk, xAA, opv, xAq, List.set_cons_succ, List.set_cons_zero, xAi, xAg, xAj, xAd, List.getD_cons_zero, xBk, List.getD_cons_succ, xA8, xAl, xAy, xBm, decide_true, Bool.not_true, xAo, xAn, Bool.false_eq_true, ↓reduceIte, xAx, xAr, xA6, xQF, ih, xAS, xAW, xAI, xAR, xA2, xAw, xAQ, xBL, xB2]

theorem xFe {l : List (List (List Int))} {z z' : Bool} {s4 : AV} {H : xAu} (hl : l.length < 1099511627776) (hr : ∀ r ∈ l, r.length < 1099511627776 ∧ ∀ w ∈ r, w.length < 1099511627776) : ∀ d i, i + d = l.length →
    L.loop xLK xTr ⟨xLL (.sl z l.length (l.map xCF)) (.sl z' l.length (l.map xCF)) s4 (.int .i64 (i : Nat)), H⟩ = some (.exit 0, ⟨xLL (.sl z l.length (l.map xCF)) (.sl z' l.length (l.map xCF)) s4 (.int .i64 (l.length : Nat)), H⟩)
  | 0, i, h => by
    obtain rfl : i = l.length := by omega
    rw [xVq]
    simp (maxSteps := 30000000) (disch := first | assumption | omega | (simp only [List.length_cons, List.length_nil, List.length_append, List.length_set, List.length_replicate, List.length_map, List.length_range, List.length_take, List.length_drop, List.all_cons, List.all_nil, AV.isCell, Bool.and_self, Bool.and_true, xAh, xAb, xAe, xAa, xAa, xAC, List.length_map] <;> omega) | rfl | decide) only [xOI, xAp, xAf, xAc, xAk, xAA, opv, List.getD_cons_succ, List.getD_cons_zero, xAq, List.set_cons_succ, List.set_cons_zero, xAi, xBk, xA8, xAl, xAy, xAz, Int.lt_irrefl, decide_false, xAg, xAj, xAd, xAo, xAn, Bool.false_eq_true, ↓reduceIte, xBt, xBc, xA3, xQT]
  | d + 1, i, h => by
    have hlt : (i : Int) < (l.length : Nat) := by omega
    have hlt' : i < l.length := by omega
    have ih := xFe (z := z) (z' := z') (s4 := s4) (H := H) hl hr d (i + 1) (by omega)
    have g := xFI hlt'
    have hi := hr _ (xBF (a := ([] : List (List Int))) hlt')
    have hm := xSH false false (l.getD i []) hi.1 hi.2
    rw [xVq]
    generalize l.getD i [] = b at *
    simp (maxSteps := 30000000) (disch := first | assumption | omega | (simp only [List.length_cons, List.length_nil, List.length_append, List.length_set, List.length_replicate, List.length_map, List.length_range, List.length_take, List.length_drop, List.all_cons, List.all_nil, AV.isCell, Bool.and_self, Bool.and_true, xAh, xAb, xAe, xAa, xAa, xAC, List.length_map] <;> omega) | rfl | decide) only [xOI, xAp, xAf, xAc, xAk, xAA, opv, List.getD_cons_succ, List.getD_cons_zero, xAq, List.set_cons_succ, List.set_cons_zero, xAi, xBk, xA8, xAl, xAy, xAz, hlt, decide_true, xAg, xAj, xAd, xAo, xAn, ↓reduceIte, xAx, xAr, xBI, List.take_succ_cons, List.take_zero, xA5, xBf, xCx, xBq, xBC, xBo, xCg, xAZ, xAY, Int.toNat_natCast, Nat.mul_one, xBR, xAJ, xBj, g, xCF, xAO, xBe, xBn, List.drop_succ_cons, List.drop_zero, xCt, xBy, xBJ, List.map_cons, List.map_nil, xBi, xBL, List.mapM_cons, xCa, List.mapM_nil, Option.pure_def, Option.bind_eq_bind, Option.bind_some, xBh, hm, xBg, xDT, xCw, xHI, xE7, Bool.not_true, Bool.false_eq_true, xAs, xBa, xCi, xCV, xAv, xQT, ih]
theorem xN2 (z z' : Bool) (l : List (List (List Int))) (hl : l.length < 1099511627776) (hr : ∀ r ∈ l, r.length < 1099511627776 ∧ ∀ w ∈ r, w.length < 1099511627776) : L.pcall 66 [.sl z l.length (l.map xCF), .sl z' l.length (l.map xCF)] = some (.bool true) := by
  have ih := fun s4 => xFe (z := z) (z' := z') (s4 := s4) (H := []) hl hr l.length 0 (by omega)
  simp only [Int.natCast_zero] at ih
  rw [yEP, a66, xA7]
  simp (maxSteps := 30000000) (disch := first | assumption | omega | (simp only [List.length_cons, List.length_nil, List.length_append, List.length_set, List.length_replicate, List.length_map, List.length_range, List.length_take, List.length_drop, List.all_cons, List.all_nil, AV.isCell, Bool.and_self, Bool.and_true, xAh, xAb, xAe, xAa, xAa, xAC, List.length_map] <;> omega) | rfl | decide) only [xAU, List.length_cons, List.length_nil, Nat.zero_add, Nat.reduceAdd, Nat.reduceSub, xCL, List.cons_append, List.nil_append, xAp, xAf, xAc, xAk, xAA, opv, xAq, List.set_cons_succ, List.set_cons_zero, xAi, xAg, xAj, xAd, List.getD_cons_zero, xBk, List.getD_cons_succ, xA8, xAl, xAy, xBm, decide_true, Bool.not_true, xAo, xAn, Bool.false_eq_true, ↓reduceIte, xAx, xAr, xA6, xQT, ih, xAS, xAW, xAI, xAR, xA2, xAw, xAQ, xBL, xB2]

theorem xUP {D : Da} (hV : Va D) : L.pcall 29 [D.av, D.av] = some (.bool true) := by
  have n64 := hV.n64
  have h8 := xDy hV.v3
  have h1 := xN2 false false D.next (by omega) (fun r hr => ⟨by rw [hV.rl r hr]; omega, fun w hw => by rw [hV.cl r hr w hw]; omega⟩)
  have h2 := xQh false false D.fin (by rw [hV.fl]; omega)
  unfold Da.av Da.cells
  rw [yEH, a29, xA7]
  simp (maxSteps := 30000000) (disch := first | assumption | omega | (simp only [List.length_cons, List.length_nil, List.length_append, List.length_set, List.length_replicate, List.length_map, List.length_range, List.length_take, List.length_drop, List.all_cons, List.all_nil, AV.isCell, Bool.and_self, Bool.and_true, xAh, xAb, xAe, xAa, xAa, xAC, List.length_map] <;> omega) | rfl | decide) only [xAU, List.length_cons, List.length_nil, Nat.zero_add, Nat.reduceAdd, Nat.reduceSub, xCL, List.cons_append, List.nil_append, xAp, xAf, xAc, xAk, xBz, AV.cells, opv, List.getD_cons_zero, List.all_cons, AV.isCell, List.all_nil, Bool.and_self, ↓reduceIte, xAq, List.set_cons_succ, List.set_cons_zero, xAi, List.getD_cons_succ, xAA, xAg, xAj, xAd, xAV, xAB, Nat.add_zero, xAl, xAJ, xA1, List.getElem?_cons_zero, xAt, List.drop_zero, List.take_succ_cons, List.take_zero, xAO, List.getElem?_cons_succ, xAy, xBM, decide_true, xAM, xAD, List.drop_succ_cons, xBb, xAN, xBJ, List.map_cons, List.map_nil, xBi, xBL, List.mapM_cons, xCa, List.mapM_nil, Option.pure_def, Option.bind_eq_bind, Option.bind_some, xBh, h1, xBg, xDT, xCw, List.take_nil, h2, xAW, xAI, xAR, xA2, xAw, xAQ, xB2]
end Go.Abs.Det
