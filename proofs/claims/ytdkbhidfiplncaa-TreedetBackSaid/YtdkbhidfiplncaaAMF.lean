/- ToNFA: the automaton under way. -/
import Derived.Test.YtdkbhidfiplncaaAGE
import Derived.Test.YtdkbhidfiplncaaAMB
import Derived.Test.YtdkbhidfiplncaaAMC
import Derived.Test.YtdkbhidfiplncaaAMS
namespace Go.Abs.Det
open Go Go.Abs
set_option linter.unusedSimpArgs false
set_option linter.unusedVariables false

def NF (D : Da) (F : List Int) (R : List Rl) (G : xAu) : Prop := ∃ vF vR, G[0]? = some (.cells false false D.cells) ∧ G[1]? = some (.cells false false [.int .i64 0, .int .i64 0, .sl true 0 [], .sl true 0 [], .sl true 0 []]) ∧
  G[2]? = some (.cells false false [.int .i64 D.vars, .int .i64 (D.next.length : Nat), .sl false 1 [.int .i64 D.empty], vF, vR]) ∧ LstE 1 3 G vF F.length (xCh F) ∧ LstE 5 3 G vR R.length (rls R) ∧ ∀ b, At vF b → ¬ At vR b

theorem NF.rule {D : Da} {F : List Int} {R : List Rl} {G : xAu} (h : NF D F R G) (u : Rl) (hR : R.length ≤ 5000) : ∃ vF vR vR' G1,
    G[0]? = some (.cells false false D.cells) ∧ G[2]? = some (.cells false false [.int .i64 D.vars, .int .i64 (D.next.length : Nat), .sl false 1 [.int .i64 D.empty], vF, vR]) ∧ xPB false 5 32 G vR (some (1, xGr u)) = some (vR', G1) ∧
    G1[2]? = some (.cells false false [.int .i64 D.vars, .int .i64 (D.next.length : Nat), .sl false 1 [.int .i64 D.empty], vF, vR]) ∧
    NF D F (R ++ [u]) (G1.set 2 (.cells false false [.int .i64 D.vars, .int .i64 (D.next.length : Nat), .sl false 1 [.int .i64 D.empty], vF, vR'])) ∧ ∃ id m, vR' = .own false id 0 m 5 := by
  obtain ⟨vF, vR, h0, h1, h2, hF, hV, hd⟩ := h
  have l2 := (List.getElem?_eq_some_iff.1 h2).1
  obtain ⟨vR', G1, p1, p2, p3, p4, p5, id, m, rfl⟩ := hV.push (xGr u) rfl (bytes := 32) (by omega) (by omega) (by omega)
  have hl := p3.1
  have e2 : rls R ++ xGr u = rls (R ++ [u]) := by simp [rls, rows]
  rw [e2, show R.length + 1 = (R ++ [u]).length by simp] at p2
  have hF1 : LstE 1 3 G1 vF F.length (xCh F) := hF.other fun b hb => p4 b (hF.inb hb).1 (hd b hb)
  have ne : ∀ (X : Blk) b, b ≠ 2 → (G1.set 2 X)[b]? = G1[b]? := fun X b hb => List.getElem?_set_ne (Ne.symm hb)
  refine ⟨vF, vR, _, G1, h0, h2, p1, (p3.2 2 (by omega)).trans h2, ⟨vF, _, ?_, ?_, List.getElem?_set_self (by omega), hF1.other fun b hb => ne _ b (by have := (hF1.inb hb).2; omega), p2.other fun b hb => ne _ b (by have := (p2.inb hb).2; omega), fun b hb q => ?_⟩, id, m, rfl⟩
  · rw [ne _ 0 (by omega)]; exact (p3.2 0 (by omega)).trans h0
  · rw [ne _ 1 (by omega)]; exact (p3.2 1 (by omega)).trans h1
  · have := p5 b q
    have := (hF.inb hb).1
    omega
theorem NF.final {D : Da} {F : List Int} {R : List Rl} {G : xAu} (h : NF D F R G) (u : Int) (hR : F.length ≤ 5000) : ∃ vF vR vF' G1,
    G[2]? = some (.cells false false [.int .i64 D.vars, .int .i64 (D.next.length : Nat), .sl false 1 [.int .i64 D.empty], vF, vR]) ∧ xPB false 1 8 G vF (some (1, [.int .i64 u])) = some (vF', G1) ∧
    G1[2]? = some (.cells false false [.int .i64 D.vars, .int .i64 (D.next.length : Nat), .sl false 1 [.int .i64 D.empty], vF, vR]) ∧
    NF D (F ++ [u]) R (G1.set 2 (.cells false false [.int .i64 D.vars, .int .i64 (D.next.length : Nat), .sl false 1 [.int .i64 D.empty], vF', vR])) ∧ ∃ id m, vF' = .own false id 0 m 1 := by
  obtain ⟨vF, vR, h0, h1, h2, hF, hV, hd⟩ := h
  have l2 := (List.getElem?_eq_some_iff.1 h2).1
  obtain ⟨vF', G1, p1, p2, p3, p4, p5, id, m, rfl⟩ := hF.push [.int .i64 u] rfl (bytes := 8) (by omega) (by omega) (by omega)
  have hl := p3.1
  have e2 : xCh F ++ [.int .i64 u] = xCh (F ++ [u]) := by simp [xCh]
  rw [e2, show F.length + 1 = (F ++ [u]).length by simp] at p2
  have hV1 : LstE 5 3 G1 vR R.length (rls R) := hV.other fun b hb => p4 b (hV.inb hb).1 (fun q => hd b q hb)
  have ne : ∀ (X : Blk) b, b ≠ 2 → (G1.set 2 X)[b]? = G1[b]? := fun X b hb => List.getElem?_set_ne (Ne.symm hb)
  refine ⟨vF, vR, _, G1, h2, p1, (p3.2 2 (by omega)).trans h2, ⟨_, vR, ?_, ?_, List.getElem?_set_self (by omega), p2.other fun b hb => ne _ b (by have := (p2.inb hb).2; omega), hV1.other fun b hb => ne _ b (by have := (hV1.inb hb).2; omega), fun b hb q => ?_⟩, id, m, rfl⟩
  · rw [ne _ 0 (by omega)]; exact (p3.2 0 (by omega)).trans h0
  · rw [ne _ 1 (by omega)]; exact (p3.2 1 (by omega)).trans h1
  · have := p5 b hb
    have := (hV.inb q).1
    omega

def rlX (D : Da) (l r x : Nat) : List Rl := (List.range x).map fun x => ⟨(l : Nat), (r : Nat), nx D (l : Nat) (r : Nat) x, x, two D.vars - 1 - x⟩
def rlR (D : Da) (l r : Nat) : List Rl := (List.range r).flatMap fun r => rlX D l r (two D.vars)
def rlL (D : Da) (l : Nat) : List Rl := (List.range l).flatMap fun l => rlR D l D.next.length
def fiL (D : Da) (l : Nat) : List Int := ((List.range l).filter fun s => D.fin.getD s false).map fun (s : Nat) => (s : Int)
theorem xPv (D : Da) (l r : Nat) : rlR D l (r + 1) = rlR D l r ++ rlX D l r (two D.vars) := by
  unfold rlR; rw [List.range_succ, List.flatMap_append]; simp
theorem xK7 (D : Da) (l : Nat) : rlL D (l + 1) = rlL D l ++ rlR D l D.next.length := by
  unfold rlL; rw [List.range_succ, List.flatMap_append]; simp
theorem xUY (D : Da) (l : Nat) : fiL D (l + 1) = if D.fin.getD l false = true then fiL D l ++ [(l : Int)] else fiL D l := by
  unfold fiL
  rw [List.range_succ, List.filter_append, List.map_append]
  by_cases c : D.fin.getD l false = true
  · rw [if_pos c]; simp at c; simp [c]
  · rw [if_neg c]; simp at c; simp [c]
theorem xK8 (D : Da) (l r x : Nat) : (rlX D l r x).length = x := by simp [rlX]
theorem xYk (D : Da) (l r : Nat) : (rlR D l r).length = r * two D.vars := by
  induction r with
  | zero => simp [rlR]
  | succ r ih => rw [xPv, List.length_append, ih, xK8, Nat.add_mul, Nat.one_mul]
theorem xN9 (D : Da) (l : Nat) : (rlL D l).length = l * (D.next.length * two D.vars) := by
  induction l with
  | zero => simp [rlL]
  | succ l ih => rw [xK7, List.length_append, ih, xYk, Nat.add_mul, Nat.one_mul]
theorem xSR (D : Da) (l : Nat) : (fiL D l).length ≤ l := by
  unfold fiL
  rw [List.length_map]
  have := List.length_filter_le (fun s => D.fin.getD s false) (List.range l)
  rwa [List.length_range] at this

theorem xSS (l : List Int) : (xCh l).all xCB = true := by
  induction l with
  | nil => rfl
  | cons a l ih => simp [xCh, xCB]

section
variable {D : Da} {F : List Int} {s41 s42 s43 s59 s60 s61 : AV}
set_option maxHeartbeats 1000000 in
theorem yDv (hV : Va D) {l r : Nat} (hl : l < D.next.length) (hr : r < D.next.length) : ∀ d x R G, x + d = two D.vars → R.length + d ≤ 5000 → NF D F R G →
    ∃ G', L.loop xLi xTf ⟨xLj (.ptr 0 0) (.ptr 1 0) (.int .i64 (two D.vars : Nat)) (.ptr 2 0) (.int .i64 (l : Nat)) (.int .i64 (r : Nat)) s41 s42 s43 s59 s60 s61 (xFk ((D.next.getD l []).getD r [])) (.int .i64 (two D.vars : Nat)) (.int .i64 (x : Nat)), G⟩ =
      some (.exit 4, ⟨xLj (.ptr 0 0) (.ptr 1 0) (.int .i64 (two D.vars : Nat)) (.ptr 2 0) (.int .i64 (l : Nat)) (.int .i64 (r : Nat)) s41 s42 s43 s59 s60 s61 (xFk ((D.next.getD l []).getD r [])) (.int .i64 (two D.vars : Nat)) (.int .i64 (two D.vars : Nat)), G'⟩) ∧
      NF D F (R ++ (rlX D l r (two D.vars)).drop x) G' := by
  have h8 := (xDy hV.v3).1
  have m1 := xBF (a := ([] : List (List Int))) hl
  have m2 := hV.rl _ m1
  have m3 := xBF (a := ([] : List Int)) (show r < (D.next.getD l []).length by omega)
  have m4 := hV.cl _ m1 _ m3
  intro d
  induction d with
  | zero =>
    intro x R G h hR hN
    obtain rfl : x = two D.vars := by omega
    refine ⟨G, ?_, by rw [List.drop_of_length_le (by rw [xK8]; omega), List.append_nil]; exact hN⟩
    rw [xVe]
    simp (maxSteps := 30000000) (disch := first | assumption | omega | (simp only [List.length_cons, List.length_nil, List.length_append, List.length_set, List.length_replicate, List.length_map, List.length_range, List.length_take, List.length_drop, List.all_cons, List.all_nil, AV.isCell, Bool.and_self, Bool.and_true, xAh, xAb, xAe, xAa, xAa, xAC, List.length_map, xAE] <;> omega) | rfl | decide) only [xOq, xFk, xAp, xAf, xAc, xAk, xAy, opv, List.getD_cons_succ, List.getD_cons_zero, xAz, Int.lt_irrefl, decide_false, xAl, xAq, List.set_cons_succ, List.set_cons_zero, xAi, xAg, xAj, xAd, xAo, xAn, Bool.false_eq_true, ↓reduceIte, xBt, xBc, xA3, xQC]
  | succ d ih =>
    intro x R G h hR hN
    have hlt : (x : Int) < (two D.vars : Nat) := by omega
    obtain ⟨vF, vR, vR', G1, g0, g2, p1, g2', hN', id, m, rfl⟩ := hN.rule ⟨(l : Nat), (r : Nat), nx D (l : Nat) (r : Nat) x, x, two D.vars - 1 - x⟩ (by omega)
    obtain ⟨G', q1, q2⟩ := ih (x + 1) (R ++ [⟨(l : Nat), (r : Nat), nx D (l : Nat) (r : Nat) x, x, two D.vars - 1 - x⟩]) _ (by omega) (by simp; omega) hN'
    refine ⟨G', ?_, ?_⟩
    · have hnx : nx D (l : Nat) (r : Nat) x = ((D.next.getD l []).getD r []).getD x 0 := rfl
      have g1 : List.take 1 (List.drop x (xCh ((D.next.getD l []).getD r []))) = [.int .i64 (nx D (l : Nat) (r : Nat) x)] := xCe _ _ (by omega)
      simp only [xGr] at p1
      rw [hnx] at p1
      unfold xFk at q1
      rw [m4] at q1
      generalize (D.next.getD l []).getD r [] = row at *
      have cx : IntKind.u8.wrap (x : Int) = (x : Int) := by simp [IntKind.wrap, IntKind.bits, IntKind.signed]; omega
      have cy : IntKind.u8.wrap (((two D.vars : Nat) : Int) - 1 - (x : Int)) = ((two D.vars - 1 - x : Nat) : Int) := by
        rw [show ((two D.vars : Nat) : Int) - 1 - (x : Int) = ((two D.vars - 1 - x : Nat) : Int) by omega]
        simp [IntKind.wrap, IntKind.bits, IntKind.signed]; omega
      rw [xVe]
      simp (maxSteps := 30000000) (disch := first | assumption | omega | (simp only [List.length_cons, List.length_nil, List.length_append, List.length_set, List.length_replicate, List.length_map, List.length_range, List.length_take, List.length_drop, List.all_cons, List.all_nil, AV.isCell, Bool.and_self, Bool.and_true, xAh, xAb, xAe, xAa, xAa, xAC, List.length_map, xAE] <;> omega) | rfl | decide) only [xOq, xFk, m4, xAp, xAf, xAc, xAk, xAy, opv, List.getD_cons_succ, List.getD_cons_zero, xAz, hlt, decide_true, xAl, xAq, List.set_cons_succ, List.set_cons_zero, xAi, xAg, xAj, xAd, xAo, xAn, ↓reduceIte, xAx, xAr, xAA, xAZ, xAY, Int.toNat_natCast, Nat.mul_one, xAJ, xBj, xB1, xBW, xCr, xBV, Nat.add_zero, xAO, xAV, xAB, Nat.zero_add, xA1, g2, xAt, List.drop_succ_cons, List.drop_zero, List.take_succ_cons, List.take_nil, xDW, xCW, cx, xFl, xZo, xCV, yFf, xS4, xCv, AV.cells, List.all_cons, List.length_cons, List.length_nil, beq_self_eq_true, List.all_nil, Bool.and_self, List.map_cons, List.map_nil, xCd, Nat.reduceAdd, Nat.reduceLeDiff, AV.isCell, and_self, xBd, List.take_zero, List.nil_append, List.cons_append, Nat.le_refl, List.drop_nil, List.append_nil, Option.map_some, xBP, xC1, Nat.reduceMul, xBO, xB5, xBL, List.flatMap_cons, xCn, List.flatMap_nil, List.isEmpty_nil, List.mapM_cons, xA0, List.mapM_nil, Option.pure_def, Option.bind_eq_bind, Option.bind_some, xB6, xBT, xDk, p1, xA4, xBE, g2', xAX, xAK, xBl, xAs, xBa, xCi, xAv, xQC, q1]
    · rw [List.append_assoc] at q2
      have hd : (rlX D l r (two D.vars)).drop x = ⟨(l : Nat), (r : Nat), nx D (l : Nat) (r : Nat) x, x, two D.vars - 1 - x⟩ :: (rlX D l r (two D.vars)).drop (x + 1) := by
        rw [List.drop_eq_getElem_cons (by rw [xK8]; omega)]
        congr 1
        simp [rlX]
      rw [hd]
      exact q2

set_option maxHeartbeats 1000000 in
theorem yAY (hV : Va D) {l : Nat} (hl : l < D.next.length) : ∀ d r R G, r + d = D.next.length → R.length + d * two D.vars ≤ 5000 → NF D F R G →
    ∃ G', L.loop xLk xTg ⟨xLl (.ptr 0 0) (.ptr 1 0) (.int .i64 (two D.vars : Nat)) (.ptr 2 0) (.int .i64 (l : Nat)) s41 s42 s43 (xCF (D.next.getD l [])) (.int .i64 (D.next.length : Nat)) (.int .i64 (r : Nat)), G⟩ =
      some (.exit 2, ⟨xLl (.ptr 0 0) (.ptr 1 0) (.int .i64 (two D.vars : Nat)) (.ptr 2 0) (.int .i64 (l : Nat)) s41 s42 s43 (xCF (D.next.getD l [])) (.int .i64 (D.next.length : Nat)) (.int .i64 (D.next.length : Nat)), G'⟩) ∧
      ∀ R0, R = R0 ++ rlR D l r → NF D F (R0 ++ rlR D l D.next.length) G' := by
  have h8 := (xDy hV.v3).1
  have n64 := hV.n64
  have m1 := xBF (a := ([] : List (List Int))) hl
  have m2 := hV.rl _ m1
  intro d
  induction d with
  | zero =>
    intro r R G h hR hN
    obtain rfl : r = D.next.length := by omega
    refine ⟨G, ?_, fun R0 e => by rw [← e]; exact hN⟩
    rw [xVf]
    simp (maxSteps := 30000000) (disch := first | assumption | omega | (simp only [List.length_cons, List.length_nil, List.length_append, List.length_set, List.length_replicate, List.length_map, List.length_range, List.length_take, List.length_drop, List.all_cons, List.all_nil, AV.isCell, Bool.and_self, Bool.and_true, xAh, xAb, xAe, xAa, xAa, xAC, List.length_map, xAE] <;> omega) | rfl | decide) only [xOr, xCF, m2, xAp, xAf, xAc, xAk, xAy, opv, List.getD_cons_succ, List.getD_cons_zero, xAz, Int.lt_irrefl, decide_false, xAl, xAq, List.set_cons_succ, List.set_cons_zero, xAi, xAg, xAj, xAd, xAo, xAn, Bool.false_eq_true, ↓reduceIte, xBt, xBc, xA3, xOs]
  | succ d ih =>
    intro r R G h hR hN
    have hlt : (r : Int) < (D.next.length : Nat) := by omega
    have hr : r < D.next.length := by omega
    rw [Nat.add_mul, Nat.one_mul] at hR
    have m3 := xBF (a := ([] : List Int)) (show r < (D.next.getD l []).length by omega)
    have m4 := hV.cl _ m1 _ m3
    obtain ⟨G1, q1, q2⟩ := yDv (s41 := s41) (s42 := s42) (s43 := s43) (s59 := xCF (D.next.getD l [])) (s60 := .int .i64 (D.next.length : Nat)) (s61 := .int .i64 (r : Nat)) hV hl hr (two D.vars) 0 R G (by omega) (by omega) hN
    rw [List.drop_zero] at q2
    obtain ⟨G', r1, r2⟩ := ih (r + 1) _ G1 (by omega) (by rw [List.length_append, xK8]; omega) q2
    refine ⟨G', ?_, fun R0 e => r2 R0 (by rw [e, xPv, List.append_assoc])⟩
    have hr2 : r < (D.next.getD l []).length := by omega
    simp only [Int.natCast_zero] at q1
    generalize D.next.getD l [] = rows at *
    unfold xFk at q1
    unfold xCF at q1 r1 ⊢
    rw [m4] at q1
    rw [m2] at q1 r1 ⊢
    rw [xVf]
    simp (maxSteps := 30000000) (disch := first | assumption | omega | (simp only [List.length_cons, List.length_nil, List.length_append, List.length_set, List.length_replicate, List.length_map, List.length_range, List.length_take, List.length_drop, List.all_cons, List.all_nil, AV.isCell, Bool.and_self, Bool.and_true, xAh, xAb, xAe, xAa, xAa, xAC, List.length_map, xAE] <;> omega) | rfl | decide) only [xOr, xAp, xAf, xAc, xAk, xAy, opv, List.getD_cons_succ, List.getD_cons_zero, xAz, hlt, decide_true, xAl, xAq, List.set_cons_succ, List.set_cons_zero, xAi, xAg, xAj, xAd, xAo, xAn, ↓reduceIte, xAx, xAr, xAA, xAZ, xAY, Int.toNat_natCast, Nat.mul_one, xAJ, xBj, xI8, xFk, m4, xAO, xBk, xA8, xA6, xQC, q1, xAS, xAs, xBa, xCi, xCV, xAv, xOs, r1]

set_option maxHeartbeats 1000000 in
theorem yDw (hV : Va D) (hn : D.next.length * (D.next.length * two D.vars) ≤ 512) : ∀ d l G, l + d = D.next.length → NF D (fiL D l) (rlL D l) G →
    ∃ G', L.loop xLn xTh ⟨xLo (.ptr 0 0) (.ptr 1 0) (.int .i64 (two D.vars : Nat)) (.ptr 2 0) (.sl false D.next.length (D.next.map xCF)) (.int .i64 (D.next.length : Nat)) (.int .i64 (l : Nat)), G⟩ =
      some (.exit 0, ⟨xLo (.ptr 0 0) (.ptr 1 0) (.int .i64 (two D.vars : Nat)) (.ptr 2 0) (.sl false D.next.length (D.next.map xCF)) (.int .i64 (D.next.length : Nat)) (.int .i64 (D.next.length : Nat)), G'⟩) ∧
      NF D (fiL D D.next.length) (rlL D D.next.length) G' := by
  have n64 := hV.n64
  have fl := hV.fl
  intro d
  induction d with
  | zero =>
    intro l G h hN
    obtain rfl : l = D.next.length := by omega
    refine ⟨G, ?_, hN⟩
    rw [xQD]
    simp (maxSteps := 30000000) (disch := first | assumption | omega | (simp only [List.length_cons, List.length_nil, List.length_append, List.length_set, List.length_replicate, List.length_map, List.length_range, List.length_take, List.length_drop, List.all_cons, List.all_nil, AV.isCell, Bool.and_self, Bool.and_true, xAh, xAb, xAe, xAa, xAa, xAC, List.length_map, xAE] <;> omega) | rfl | decide) only [xLm, xAp, xAf, xAc, xAk, xAy, opv, List.getD_cons_succ, List.getD_cons_zero, xAz, Int.lt_irrefl, decide_false, xAl, xAq, List.set_cons_succ, List.set_cons_zero, xAi, xAg, xAj, xAd, xAo, xAn, Bool.false_eq_true, ↓reduceIte, xBt, xBc, xA3, xOt]
  | succ d ih =>
    intro l G h hN
    have hlt : (l : Int) < (D.next.length : Nat) := by omega
    have hl : l < D.next.length := by omega
    have m1 := xBF (a := ([] : List (List Int))) hl
    have m2 := hV.rl _ m1
    have hfs := xUY D l
    have hfl := xSR D l
    have hrl := xN9 D l
    have hle : l * (D.next.length * two D.vars) ≤ D.next.length * (D.next.length * two D.vars) := Nat.mul_le_mul_right _ (by omega)
    have h1 : D.next.length * two D.vars ≤ D.next.length * (D.next.length * two D.vars) := Nat.le_mul_of_pos_left _ (by omega)
    have gf : List.take 1 (List.drop l (xCq D.fin)) = [.bool (D.fin.getD l false)] := xKR (by omega)
    obtain ⟨vF0, vR0, b0, _⟩ := hN
    have hN : NF D (fiL D l) (rlL D l) G := ⟨vF0, vR0, b0, by assumption⟩
    cases c : D.fin.getD l false with
    | true =>
      rw [c, if_pos rfl] at hfs
      rw [c] at gf
      obtain ⟨vF, vR, vF', G1, g2, p1, g2', hN', id, m, rfl⟩ := hN.final (l : Int) (by omega)
      rw [← hfs] at hN'
      obtain ⟨G2, q1, q2⟩ := yAY (s41 := .sl false D.next.length (D.next.map xCF)) (s42 := .int .i64 (D.next.length : Nat)) (s43 := .int .i64 (l : Nat)) hV hl D.next.length 0 _ _ (by omega) (by omega) hN'
      have hN2 := q2 (rlL D l) (by simp [rlR])
      rw [← xK7] at hN2
      obtain ⟨G', r1, r2⟩ := ih (l + 1) G2 (by omega) hN2
      refine ⟨G', ?_, r2⟩
      simp only [Int.natCast_zero] at q1
      rw [show xCF (D.next.getD l []) = .sl false (D.next.getD l []).length ((D.next.getD l []).map xFk) from rfl, m2] at q1
      unfold Da.cells at b0
      rw [xQD]
      simp (maxSteps := 30000000) (disch := first | assumption | omega | (simp only [List.length_cons, List.length_nil, List.length_append, List.length_set, List.length_replicate, List.length_map, List.length_range, List.length_take, List.length_drop, List.all_cons, List.all_nil, AV.isCell, Bool.and_self, Bool.and_true, xAh, xAb, xAe, xAa, xAa, xAC, List.length_map, xAE] <;> omega) | rfl | decide) only [xLm, xAp, xAf, xAc, xAk, xAy, opv, List.getD_cons_succ, List.getD_cons_zero, xAz, hlt, decide_true, xAl, xAq, List.set_cons_succ, List.set_cons_zero, xAi, xAg, xAj, xAd, xAo, xAn, ↓reduceIte, xAx, xAr, xAA, xAZ, xAY, Int.toNat_natCast, Nat.mul_one, xAJ, xBj, xFI, xCF, m2, xAO, xAV, xAB, Nat.zero_add, xA1, b0, fl, xAt, List.drop_succ_cons, List.drop_zero, List.take_succ_cons, List.take_nil, gf, g2, List.take_zero, xBP, AV.cells, List.all_cons, List.length_cons, List.length_nil, beq_self_eq_true, List.all_nil, Bool.and_self, xC1, List.append_nil, List.map_cons, List.map_nil, xCd, Nat.le_refl, AV.isCell, and_self, xBd, List.nil_append, List.drop_nil, xBO, xB5, xBL, List.flatMap_cons, xCn, List.flatMap_nil, List.isEmpty_nil, List.mapM_cons, xA0, List.mapM_nil, Option.pure_def, Option.bind_eq_bind, Option.bind_some, xB6, xBT, xDk, p1, xA4, xBE, g2', xAX, List.cons_append, Nat.reduceAdd, xAK, xBl, xBk, xA8, xA6, xOs, q1, xAS, xAs, xBa, xCi, xCV, xAv, xOt, r1]
    | false =>
      rw [c, if_neg (by simp)] at hfs
      rw [c] at gf
      rw [← hfs] at hN
      obtain ⟨G2, q1, q2⟩ := yAY (s41 := .sl false D.next.length (D.next.map xCF)) (s42 := .int .i64 (D.next.length : Nat)) (s43 := .int .i64 (l : Nat)) hV hl D.next.length 0 _ _ (by omega) (by omega) hN
      have hN2 := q2 (rlL D l) (by simp [rlR])
      rw [← xK7] at hN2
      obtain ⟨G', r1, r2⟩ := ih (l + 1) G2 (by omega) hN2
      refine ⟨G', ?_, r2⟩
      simp only [Int.natCast_zero] at q1
      rw [show xCF (D.next.getD l []) = .sl false (D.next.getD l []).length ((D.next.getD l []).map xFk) from rfl, m2] at q1
      unfold Da.cells at b0
      rw [xQD]
      simp (maxSteps := 30000000) (disch := first | assumption | omega | (simp only [List.length_cons, List.length_nil, List.length_append, List.length_set, List.length_replicate, List.length_map, List.length_range, List.length_take, List.length_drop, List.all_cons, List.all_nil, AV.isCell, Bool.and_self, Bool.and_true, xAh, xAb, xAe, xAa, xAa, xAC, List.length_map, xAE] <;> omega) | rfl | decide) only [xLm, xAp, xAf, xAc, xAk, xAy, opv, List.getD_cons_succ, List.getD_cons_zero, xAz, hlt, decide_true, xAl, xAq, List.set_cons_succ, List.set_cons_zero, xAi, xAg, xAj, xAd, xAo, xAn, ↓reduceIte, xAx, xAr, xAA, xAZ, xAY, Int.toNat_natCast, Nat.mul_one, xAJ, xBj, xFI, xCF, m2, xAO, xAV, xAB, Nat.zero_add, xA1, b0, fl, xAt, List.drop_succ_cons, List.drop_zero, List.take_succ_cons, List.take_nil, gf, Bool.false_eq_true, xBk, xA8, xA6, xOs, q1, xAS, xAs, xBa, xCi, xCV, xAv, xOt, r1]

def toN (D : Da) : Aut := ⟨D.vars, (D.next.length : Nat), false, [D.empty], (fiL D D.next.length).length == 0, fiL D D.next.length, (rlL D D.next.length).length == 0, rlL D D.next.length⟩

set_option maxHeartbeats 2000000 in
theorem xYl (hV : Va D) (hn : D.next.length * (D.next.length * two D.vars) ≤ 512) : L.pcall 27 [D.av] = some (.tup [(toN D).av, .int .i64 0]) := by
  have hk := xKS D hV
  have h8 := (xDy hV.v3).1
  have hsh := xI9 hV.v0 hV.v3
  have hv : ¬ D.vars < 0 := by have := hV.v0; omega
  have n64 := hV.n64
  have hn2 : D.next.length * D.next.length * two D.vars ≤ 512 := by rw [Nat.mul_assoc]; exact hn
  have hn3 : (512 < ((D.next.length * D.next.length * two D.vars : Nat) : Int)) = False := eq_false (by omega)
  have hm64 : D.next.length * D.next.length ≤ 64 * 64 := Nat.mul_le_mul n64 n64
  have hN0 : NF D (fiL D 0) (rlL D 0) [.cells false false D.cells, .cells false false [.int .i64 0, .int .i64 0, .sl true 0 [], .sl true 0 [], .sl true 0 []], .cells false false [.int .i64 D.vars, .int .i64 (D.next.length : Nat), .sl false 1 [.int .i64 D.empty], .sl true 0 [], .sl true 0 []]] :=
    ⟨.sl true 0 [], .sl true 0 [], rfl, rfl, rfl, .nil _ _ _, .nil _ _ _, fun b hb => by obtain ⟨z, o, n, es, e⟩ := hb; cases e⟩
  obtain ⟨G, q1, vF, vR, b0, b1, b2, hF, hR, hd⟩ := yDw hV hn D.next.length 0 _ (by omega) hN0
  have l2 := (List.getElem?_eq_some_iff.1 b2).1
  have sl := fun Z : Blk => (List.getElem?_set_self (l := G) (a := Z) (show 1 < G.length by omega))
  have hF' := fun Z : Blk => (hF.other (H' := G.set 1 Z) fun b hb => List.getElem?_set_ne (by have := (hF.inb hb).2; omega)).dat (xSS _) 3
  have hR' := fun Z : Blk => (hR.other (H' := G.set 1 Z) fun b hb => List.getElem?_set_ne (by have := (hR.inb hb).2; omega)).dat (xX4 _) 3
  simp only [Int.natCast_zero] at q1
  unfold toN Aut.av Aut.cells
  unfold iw
  generalize fiL D D.next.length = FF at *
  generalize rlL D D.next.length = RR at *
  unfold Da.av at hk ⊢
  unfold Da.cells at hk q1 ⊢
  have hb : xBN L a27 [.agg [.int .i64 D.vars, .int .i64 D.empty, .sl false D.next.length (D.next.map xCF), .sl false D.fin.length (xCq D.fin)]] [] =
      some (.tup [.agg [.int .i64 D.vars, .int .i64 (D.next.length : Nat), .sl false 1 [.int .i64 D.empty], vF, vR], .int .i64 0], G.set 1 (.cells false false [.int .i64 D.vars, .int .i64 (D.next.length : Nat), .sl false 1 [.int .i64 D.empty], vF, vR])) := by
    have hm64' := hm64
    rcases hF with ⟨_, _, rfl⟩ | ⟨jF, rfl, _⟩ <;> rcases hR with ⟨_, _, rfl⟩ | ⟨jR, rfl, _⟩ <;>
    · rw [a27]
      simp (maxSteps := 30000000) (disch := first | assumption | omega | (simp only [List.length_cons, List.length_nil, List.length_append, List.length_set, List.length_replicate, List.length_map, List.length_range, List.length_take, List.length_drop, List.all_cons, List.all_nil, AV.isCell, Bool.and_self, Bool.and_true, xAh, xAb, xAe, xAa, xAa, xAC, List.length_map, xAE] <;> omega) | rfl | decide) only [xAU, List.length_cons, List.length_nil, Nat.zero_add, Nat.reduceSub, xCL, List.cons_append, List.nil_append, xAp, xAf, xAc, xAk, xBz, AV.cells, opv, List.getD_cons_zero, List.all_cons, AV.isCell, List.all_nil, Bool.and_self, ↓reduceIte, xAq, List.set_cons_succ, List.set_cons_zero, xAi, xAA, xAg, xAj, xAd, xAJ, List.getD_cons_succ, xA1, List.getElem?_cons_zero, xAt, List.drop_zero, List.take_succ_cons, List.take_nil, xBH, xAl, xBJ, List.map_cons, List.map_nil, xBi, xBL, List.mapM_cons, xCA, xA0, xCa, List.mapM_nil, Option.pure_def, Option.bind_eq_bind, Option.bind_some, Option.map_some, xBh, hk, xBg, xDT, xCw, xAy, xBm, decide_true, Bool.not_true, xAo, xAn, Bool.false_eq_true, xAx, xBI, List.take_zero, xA5, xBf, xBY, xAV, xAB, xBq, xBC, xBo, xBR, List.drop_succ_cons, xAO, xIy, xBk, xA8, Nat.add_zero, xEa, xDb, hsh, xBe, xBn, xCt, xBy, xWy, yFh, xCV, xCm, hn3, decide_false, xBP, beq_self_eq_true, xC1, List.append_nil, Nat.mul_one, xCd, Nat.le_refl, and_self, xBd, List.drop_nil, xBO, xB5, List.flatMap_cons, xCn, List.flatMap_nil, List.isEmpty_nil, xB6, xCv, Nat.reduceAdd, Nat.reduceLeDiff, xA4, xBE, List.getElem?_cons_succ, xAX, xAK, xBl, xAr, xA6, xOt, q1, xAS, b2, b1, xAW, xAI, xDO, xDN, xEh, sl, xDm, xHJ, xDM, xA2, xEi, xAw]
  rw [yDO]
  refine xHW hb ?_
  show ((([AV.agg [.int .i64 D.vars, .int .i64 (D.next.length : Nat), .sl false 1 [.int .i64 D.empty], vF, vR], AV.int .i64 0]).mapM (frz 5 _)).map AV.tup) = _
  simp only [List.mapM_cons, List.mapM_nil, xA0, xCA, xCa, hF', hR', Option.pure_def, Option.bind_eq_bind, Option.bind_some, Option.map_some]
  rfl
theorem xNd (v e : Int) (z1 z2 : Bool) (v0 : 0 ≤ v) (v3 : v ≤ 3) : L.pcall 27 [.agg [.int .i64 v, .int .i64 e, .sl z1 0 [], .sl z2 0 []]] = some (.tup [.agg [.int .i64 0, .int .i64 0, .sl true 0 [], .sl true 0 [], .sl true 0 []], .int .i64 3]) := by
  have h := xP6 v e z1 z2 0 [] v0 v3
  rw [yDO, a27, xA7]
  simp (maxSteps := 30000000) (disch := first | assumption | omega | (simp only [List.length_cons, List.length_nil, List.length_append, List.length_set, List.length_replicate, List.length_map, List.length_range, List.length_take, List.length_drop, List.all_cons, List.all_nil, AV.isCell, Bool.and_self, Bool.and_true, xAh, xAb, xAe, xAa, xAa, xAC, List.length_map, xAE] <;> omega) | rfl | decide) only [xAU, List.length_cons, List.length_nil, Nat.zero_add, Nat.reduceSub, xCL, List.cons_append, List.nil_append, xAp, xAf, xAc, xAk, xBz, AV.cells, opv, List.getD_cons_zero, List.all_cons, AV.isCell, List.all_nil, Bool.and_self, ↓reduceIte, xAq, List.set_cons_succ, List.set_cons_zero, xAi, xAA, xAg, xAj, xAd, xAJ, List.getD_cons_succ, xA1, List.getElem?_cons_zero, xAt, List.drop_zero, List.take_succ_cons, List.take_nil, xBH, xAl, xBJ, List.map_cons, List.map_nil, xBi, xBL, List.mapM_cons, xCA, xA0, xCa, List.mapM_nil, Option.pure_def, Option.bind_eq_bind, Option.bind_some, Option.map_some, xBh, h, xBg, xDT, xCw, xAy, xBm, Int.reduceEq, decide_false, Bool.not_false, xAo, xAn, xCv, xCd, xA4, Nat.reduceAdd, xBE, List.getElem?_cons_succ, xAX, xBd, List.take_zero, List.drop_succ_cons, List.drop_nil, List.append_nil, xAK, xBl, xAW, xBu, xAI, xDO, xDN, xEh, xDm, xHJ, xDM, xA2, xEi, xAw, xAQ, xG2]
end
end Go.Abs.Det

/- Plain law: the nondeterministic version of an automaton; its steps. -/
namespace Go.Abs.Det
open Go Go.Abs
set_option linter.unusedSimpArgs false
set_option linter.unusedVariables false

theorem xHo : ∀ v, v ≤ 3 → ∀ x, x < 2 ^ v → ∀ y, y < 2 ^ v → (¬ 2 ^ v ≤ x ||| (2 ^ v - 1 - x)) ∧ x &&& (2 ^ v - 1 - x) = 0 ∧ (x &&& y = y ∧ x &&& (2 ^ v - 1 - y) = 0 ↔ x = y) := by decide

section
variable {D : Da}
theorem xOa (D : Da) : two D.vars = 2 ^ D.vars.toNat := rfl
theorem mem_rlL {n : Nat} {u : Rl} : u ∈ rlL D n ↔ ∃ l r x, l < n ∧ r < D.next.length ∧ x < two D.vars ∧ u = ⟨(l : Nat), (r : Nat), nx D (l : Nat) (r : Nat) x, x, two D.vars - 1 - x⟩ := by
  unfold rlL rlR rlX
  simp only [List.mem_flatMap, List.mem_map, List.mem_range]
  constructor
  · rintro ⟨l, hl, r, hr, x, hx, rfl⟩; exact ⟨l, r, x, hl, hr, hx, rfl⟩
  · rintro ⟨l, r, x, hl, hr, hx, rfl⟩; exact ⟨l, hl, r, hr, x, hx, rfl⟩
theorem mem_fiL {n : Nat} {q : Int} : q ∈ fiL D n ↔ ∃ s : Nat, s < n ∧ D.fin.getD s false = true ∧ q = (s : Nat) := by
  unfold fiL
  simp only [List.mem_map, List.mem_filter, List.mem_range]
  constructor
  · rintro ⟨s, ⟨h1, h2⟩, rfl⟩; exact ⟨s, h1, h2, rfl⟩
  · rintro ⟨s, h1, h2, rfl⟩; exact ⟨s, ⟨h1, h2⟩, rfl⟩
theorem xV5 (hV : Va D) (hn : D.next.length * (D.next.length * two D.vars) ≤ 512) : TyA (toN D) := by
  have n64 := hV.n64
  have hl := xN9 D D.next.length
  have hf := xSR D D.next.length
  refine ⟨by show [D.empty].length < _; simp, by show (fiL D _).length < _; omega, by show (rlL D _).length < _; omega, fun e he => ?_⟩
  obtain ⟨l, r, x, _, _, hx, rfl⟩ := mem_rlL.1 he
  have := (xDy hV.v3).1
  show x < 256 ∧ two D.vars - 1 - x < 256
  omega
theorem xUZ (s : Int) : ∀ n : Nat, (n : Int) ≤ s → ∀ k : Nat, ∀ last : Int, last < (k : Int) → xK9 s last ((((List.range' k (n - k)).filter fun s => D.fin.getD s false).map fun (s : Nat) => (s : Int))) = true := by
  intro n hn k
  generalize hm : n - k = m
  induction m generalizing k with
  | zero => intro last _; rfl
  | succ m ih =>
    intro last hl
    rw [List.range'_succ, List.filter_cons]
    split
    · rw [List.map_cons]
      unfold xK9
      rw [if_neg (by omega)]
      exact ih (k + 1) (by omega) _ (by omega)
    · exact ih (k + 1) (by omega) last (by omega)
theorem xST (hV : Va D) (hn : D.next.length * (D.next.length * two D.vars) ≤ 512) : Valid (toN D) := by
  have hl := xN9 D D.next.length
  have n64 := hV.n64
  refine ⟨hV.v0, hV.v3, by show (0 : Int) ≤ (D.next.length : Nat); omega, by show ((D.next.length : Nat) : Int) ≤ 64; omega, by show (rlL D _).length ≤ _; omega, ?_, ?_, ?_⟩
  · show xK9 _ _ [D.empty] = true
    have := hV.e0; have := hV.en
    unfold xK9
    rw [if_neg (by show ¬ _; simp only [toN]; omega)]
    rfl
  · have := xUZ (D := D) (D.next.length : Nat) D.next.length (Int.le_refl _) 0 (-1) (by omega)
    rw [Nat.sub_zero, ← List.range_eq_range'] at this
    exact this
  · show xEI _ _ (rlL D _) = 0
    have hall : ∀ e ∈ rlL D D.next.length, xHL (toN D).states (toN D).vars.toNat e = 0 := fun e he => by
      obtain ⟨l, r, x, h1, h2, hx, rfl⟩ := mem_rlL.1 he
      have hb := xNV hV (a := (l : Nat)) (b := (r : Nat)) (x := x) (by omega) (by omega) hx
      unfold xHL
      rw [if_neg (by simp only [toN]; omega)]
      show xGp D.vars.toNat x (two D.vars - 1 - x) = 0
      unfold xGp
      have v3 := hV.v3
      obtain ⟨c1, c2, _⟩ := xHo D.vars.toNat (by omega) x hx x hx
      rw [xOa, if_neg c1, if_pos c2]
    clear hl
    generalize rlL D D.next.length = R at *
    induction R with
    | nil => rfl
    | cons a t ih =>
      rw [xM3 (hall a (by simp))]
      refine ih (fun e he => hall e (by simp [he]))
theorem xOb (hV : Va D) (hn : D.next.length * (D.next.length * two D.vars) ≤ 512) : xS8 (toN D) = 0 := chkE_zero.2 (xST hV hn)

theorem xOc (hV : Va D) {p q x : Nat} (hp : p < D.next.length) (hq : q < D.next.length) (hx : x < two D.vars) : aft (toN D) (2 ^ p) (2 ^ q) x = 2 ^ (nx D (p : Nat) (q : Nat) x).toNat := by
  refine Nat.eq_of_testBit_eq fun j => ?_
  have hv3 := hV.v3
  have h0 : ∀ e ∈ (toN D).rl, 0 ≤ e.t := fun e he => by
    obtain ⟨l, r, y, h1, h2, hy, rfl⟩ := mem_rlL.1 he
    exact (xNV hV (a := (l : Nat)) (b := (r : Nat)) (by omega) (by omega) hy).1
  have hb := xNV hV (a := (p : Nat)) (b := (q : Nat)) (x := x) (by omega) (by omega) hx
  rw [xSx _ _ _ _ _ _ h0, Nat.zero_testBit, Bool.false_or, Nat.testBit_two_pow, Bool.eq_iff_iff, List.any_eq_true]
  constructor
  · rintro ⟨u, hu, h⟩
    obtain ⟨l, r, y, h1, h2, hy, rfl⟩ := mem_rlL.1 hu
    unfold hit xQs at h
    simp only [Bool.and_eq_true, decide_eq_true_eq, Nat.testBit_two_pow, Int.toNat_natCast] at h
    obtain ⟨⟨⟨rfl, rfl⟩, h3, h4⟩, h5⟩ := h
    have hxy := (xHo D.vars.toNat (by omega) x hx y hy).2.2.1 ⟨h3, by rw [xOa] at h4; exact h4⟩
    subst hxy
    rw [h5]
    simp
  · intro h
    rw [decide_eq_true_eq] at h
    refine ⟨_, mem_rlL.2 ⟨p, q, x, hp, hq, hx, rfl⟩, ?_⟩
    unfold hit xQs
    simp only [Bool.and_eq_true, decide_eq_true_eq, Nat.testBit_two_pow, Int.toNat_natCast, and_self]
    have hxy := (xHo D.vars.toNat (by omega) x hx x hx).2.2.2 rfl
    exact ⟨⟨trivial, hxy.1, by rw [xOa]; exact hxy.2⟩, by omega⟩
theorem xV6 (D : Da) : xDd 0 (toN D).st = 2 ^ D.empty.toNat := by
  show (0 ||| 2 ^ D.empty.toNat) = _
  exact Nat.zero_or _
theorem xSU (hV : Va D) : ∀ T : BT, T.labs (· < two D.vars) → evA (toN D) T = 2 ^ (stB D T).toNat
  | .nil, _ => xV6 D
  | .node x l r, h => by
    have hl := xJa hV h.2.1
    have hr := xJa hV h.2.2
    show aft (toN D) (evA (toN D) l) (evA (toN D) r) x = _
    rw [xSU hV l h.2.1, xSU hV r h.2.2, xOc hV (by omega) (by omega) h.1, Int.toNat_of_nonneg hl.1, Int.toNat_of_nonneg hr.1]
    rfl
theorem xYm (hV : Va D) {T : BT} (h : T.labs (· < two D.vars)) : (∃ j, (evA (toN D) T).testBit j = true ∧ (toN D).fi.contains (j : Int) = true) ↔ D.fin.getD (stB D T).toNat false = true := by
  have hb := xJa hV h
  rw [xSU hV T h]
  constructor
  · rintro ⟨j, h1, h2⟩
    rw [Nat.testBit_two_pow, decide_eq_true_eq] at h1
    obtain ⟨s, s1, s2, s3⟩ := mem_fiL.1 (List.contains_iff_mem.1 h2)
    have : s = (stB D T).toNat := by omega
    rw [← this]; exact s2
  · intro h1
    exact ⟨(stB D T).toNat, by rw [Nat.testBit_two_pow, decide_eq_true_eq], List.contains_iff_mem.2 (mem_fiL.2 ⟨_, by omega, h1, rfl⟩)⟩
end
end Go.Abs.Det

/- Plain law: determinizing the nondeterministic version gives the renumbered automaton. -/
namespace Go.Abs.Det
open Go Go.Abs
set_option linter.unusedSimpArgs false
set_option linter.unusedVariables false

section
variable {σ : Type} {size : σ → Nat} {bu : Nat} {stp : σ → Nat → Nat → Nat → σ}
theorem xYn (hm : ∀ s l r x, size s ≤ size (stp s l r x)) (l r : Nat) : ∀ e x s, size (goX xFi stp l r x e s) ≤ bu → goX (fun s => decide (bu < size s)) stp l r x e s = goX xFi stp l r x e s
  | 0, _, _, _ => rfl
  | e + 1, x, s, h => by
    have h1 : goX xFi stp l r x (e + 1) s = goX xFi stp l r (x + 1) e (stp s l r x) := rfl
    rw [h1] at h ⊢
    have h2 := xE1 (bad := xFi) hm l r e (x + 1) (stp s l r x)
    have h3 : goX (fun s => decide (bu < size s)) stp l r x (e + 1) s = if decide (bu < size (stp s l r x)) = true then stp s l r x else goX (fun s => decide (bu < size s)) stp l r (x + 1) e (stp s l r x) := rfl
    rw [h3, if_neg (by simp; omega)]
    exact xYn hm l r e (x + 1) _ h
theorem yDx (hm : ∀ s l r x, size s ≤ size (stp s l r x)) (m j k : Nat) (s : σ) (h : size (goP xFi stp m j k s) ≤ bu) : goP (fun s => decide (bu < size s)) stp m j k s = goP xFi stp m j k s := by
  have h1 : goP xFi stp m j k s = goX xFi stp k j 0 m (goX xFi stp j k 0 m s) := rfl
  rw [h1] at h ⊢
  have h2 := xE1 (bad := xFi) hm k j m 0 (goX xFi stp j k 0 m s)
  have h3 := xYn (bu := bu) hm j k m 0 s (by omega)
  unfold goP
  rw [h3, if_neg (by simp; omega), xYn hm k j m 0 _ h]
theorem yAZ (hm : ∀ s l r x, size s ≤ size (stp s l r x)) (m k : Nat) : ∀ e j s, size (goJ xFi stp m k j e s) ≤ bu → goJ (fun s => decide (bu < size s)) stp m k j e s = goJ xFi stp m k j e s
  | 0, _, _, _ => rfl
  | e + 1, j, s, h => by
    have h1 : goJ xFi stp m k j (e + 1) s = goJ xFi stp m k (j + 1) e (goP xFi stp m j k s) := rfl
    rw [h1] at h ⊢
    have h2 := xK2 (bad := xFi) hm m k e (j + 1) (goP xFi stp m j k s)
    have h3 := yDx (bu := bu) hm m j k s (by omega)
    have h4 : goJ (fun s => decide (bu < size s)) stp m k j (e + 1) s = if decide (bu < size (goP (fun s => decide (bu < size s)) stp m j k s)) = true then goP (fun s => decide (bu < size s)) stp m j k s else goJ (fun s => decide (bu < size s)) stp m k (j + 1) e (goP (fun s => decide (bu < size s)) stp m j k s) := rfl
    rw [h4, h3, if_neg (by simp; omega)]
    exact yAZ hm m k e (j + 1) _ h
theorem xSV (hm : ∀ s l r x, size s ≤ size (stp s l r x)) (m : Nat) : ∀ e k s, size s ≤ size (goK size xFi stp m k e s)
  | 0, _, s => Nat.le_refl _
  | e + 1, k, s => by
    unfold goK
    split
    · simp only [xFi, Bool.false_eq_true, if_false]
      exact Nat.le_trans (xK2 (bad := xFi) hm m k (k + 1) 0 s) (xSV hm m e (k + 1) _)
    · exact Nat.le_refl _
theorem yA0 (hm : ∀ s l r x, size s ≤ size (stp s l r x)) (m : Nat) : ∀ e k s, size (goK size xFi stp m k e s) ≤ bu → goK size (fun s => decide (bu < size s)) stp m k e s = goK size xFi stp m k e s
  | 0, _, _, _ => rfl
  | e + 1, k, s, h => by
    by_cases c : k < size s
    · have h1 : goK size xFi stp m k (e + 1) s = goK size xFi stp m (k + 1) e (goJ xFi stp m k 0 (k + 1) s) := by
        show (if k < size s then _ else _) = _
        rw [if_pos c]; rfl
      rw [h1] at h ⊢
      have h2 := xSV hm m e (k + 1) (goJ xFi stp m k 0 (k + 1) s)
      have h3 := yAZ (bu := bu) hm m k (k + 1) 0 s (by omega)
      show (if k < size s then _ else _) = _
      rw [if_pos c, h3, if_neg (by simp; omega)]
      exact yA0 hm m e (k + 1) _ h
    · show (if k < size s then _ else _) = (if k < size s then _ else _)
      rw [if_neg c, if_neg c]
end

section
variable {D : Da}
def pw (s : Int) : Nat := 2 ^ s.toNat
theorem xV7 {a b : Int} (ha : 0 ≤ a) (hb : 0 ≤ b) (h : pw a = pw b) : a = b := by
  have := (Nat.pow_right_inj (by omega)).1 h
  omega
theorem xNe {o : List Int} {i : Nat} (h : i < o.length) : (o.map pw).getD i 0 = pw (o.getD i 0) := by
  rw [List.getD_eq_getElem?_getD, List.getD_eq_getElem?_getD]; simp [h]
theorem yA1 {o : List Int} {s : Int} (h0 : 0 ≤ s) (ho : ∀ a ∈ o, 0 ≤ a) : pw s ∈ o.map pw ↔ s ∈ o := by
  rw [List.mem_map]
  exact ⟨fun ⟨a, h1, h2⟩ => by rw [← xV7 (ho a h1) h0 h2]; exact h1, fun h => ⟨s, h, rfl⟩⟩
theorem xYo (hV : Va D) {o : List Int} (hO : OrdOk D o) {l r x : Nat} (hl : l < o.length) (hr : r < o.length) (hx : x < two D.vars) : xDz (toN D) (o.map pw) l r x = (xDi D o l r x).map pw := by
  have bl := hO.bd _ (xBF (a := (0 : Int)) hl)
  have br := hO.bd _ (xBF (a := (0 : Int)) hr)
  have hb := xNV hV bl br hx
  have e : xQn (toN D) (o.map pw) l r x = pw (nx D (o.getD l 0) (o.getD r 0) x) := by
    show aft (toN D) ((o.map pw).getD l 0) ((o.map pw).getD r 0) x = _
    rw [xNe hl, xNe hr]
    unfold pw
    rw [xOc hV (by omega) (by omega) hx, Int.toNat_of_nonneg bl.1, Int.toNat_of_nonneg br.1]
  unfold xDz xDi
  rw [e]
  have hm := yA1 (o := o) hb.1 (fun a ha => (hO.bd a ha).1)
  by_cases c : nx D (o.getD l 0) (o.getD r 0) x ∈ o
  · rw [if_pos c, if_pos (hm.2 c)]
  · rw [if_neg c, if_neg (fun q => c (hm.1 q)), List.map_append]; rfl
theorem xSW (hV : Va D) (l r : Nat) : ∀ e x o, OrdOk D o → x + e ≤ two D.vars → l < o.length → r < o.length → goX xFh (xDz (toN D)) l r x e (o.map pw) = (goX nob (xDi D) l r x e o).map pw ∧ OrdOk D (goX nob (xDi D) l r x e o)
  | 0, _, o, hO, _, _, _ => ⟨rfl, hO⟩
  | e + 1, x, o, hO, hx, hl, hr => by
    rw [xN5, xOg, xYo hV hO hl hr (by omega)]
    have := xE2 (xN4 (D := D) o l r x)
    exact xSW hV l r e (x + 1) _ (hO.step hV hl hr (by omega)) (by omega) (by omega) (by omega)
theorem yA2 (hV : Va D) {j k : Nat} {o : List Int} (hO : OrdOk D o) (hj : j < o.length) (hk : k < o.length) : goP xFh (xDz (toN D)) (two D.vars) j k (o.map pw) = (goP nob (xDi D) (two D.vars) j k o).map pw ∧ OrdOk D (goP nob (xDi D) (two D.vars) j k o) := by
  rw [xYf, xYu]
  have := xE2 (xHF (D := D) j k (two D.vars) 0 o)
  obtain ⟨h1, h2⟩ := xSW hV j k (two D.vars) 0 o hO (by omega) hj hk
  rw [h1]
  exact xSW hV k j _ 0 _ h2 (by omega) (by omega) (by omega)
theorem xV8 (hV : Va D) (k : Nat) : ∀ e j o, OrdOk D o → j + e = k + 1 → k < o.length → goJ xFh (xDz (toN D)) (two D.vars) k j e (o.map pw) = (goJ nob (xDi D) (two D.vars) k j e o).map pw ∧ OrdOk D (goJ nob (xDi D) (two D.vars) k j e o)
  | 0, _, o, hO, _, _ => ⟨rfl, hO⟩
  | e + 1, j, o, hO, hj, hk => by
    rw [xN6, xOh]
    have := xE2 (xSM (D := D) (two D.vars) j k o)
    obtain ⟨h1, h2⟩ := yA2 hV hO (show j < o.length by omega) hk
    rw [h1]
    exact xV8 hV k e (j + 1) _ h2 (by omega) (by omega)
theorem xV9 (hV : Va D) : ∀ e k o, OrdOk D o → goK List.length xFh (xDz (toN D)) (two D.vars) k e (o.map pw) = (goK List.length nob (xDi D) (two D.vars) k e o).map pw
  | 0, _, _, _ => rfl
  | e + 1, k, o, hO => by
    by_cases c : k < o.length
    · have h1 : goK List.length nob (xDi D) (two D.vars) k (e + 1) o = goK List.length nob (xDi D) (two D.vars) (k + 1) e (goJ nob (xDi D) (two D.vars) k 0 (k + 1) o) := by
        show (if k < o.length then _ else _) = _
        rw [if_pos c]; rfl
      have h2 : goK List.length xFh (xDz (toN D)) (two D.vars) k (e + 1) (o.map pw) = goK List.length xFh (xDz (toN D)) (two D.vars) (k + 1) e (goJ xFh (xDz (toN D)) (two D.vars) k 0 (k + 1) (o.map pw)) := by
        show (if k < (o.map pw).length then _ else _) = _
        rw [if_pos (by simpa using c)]; rfl
      obtain ⟨h3, h4⟩ := xV8 hV k (k + 1) 0 o hO (by omega) c
      rw [h1, h2, h3]
      exact xV9 hV e (k + 1) _ h4
    · have h1 : goK List.length nob (xDi D) (two D.vars) k (e + 1) o = o := by
        show (if k < o.length then _ else _) = _
        rw [if_neg c]
      have h2 : goK List.length xFh (xDz (toN D)) (two D.vars) k (e + 1) (o.map pw) = o.map pw := by
        show (if k < (o.map pw).length then _ else _) = _
        rw [if_neg (by simpa using c)]
      rw [h1, h2]

theorem xU0 (hV : Va D) {bu : Nat} (hb : D.next.length ≤ bu) : xKm (toN D) bu = (xEg D).map pw := by
  have hok := (xEK hV).1
  have hle := hok.le
  have h1 := xV9 hV bu 0 [D.empty] ⟨by simp, fun s hs => by rw [List.mem_singleton] at hs; subst hs; exact ⟨hV.e0, hV.en⟩⟩
  have h2 := xN1 (D := D) (n := two D.vars) (o := [D.empty]) (N := D.next.length) hle (bu - D.next.length)
  rw [show D.next.length + (bu - D.next.length) = bu by omega] at h2
  rw [h2] at h1
  have h3 : xKm (toN D) bu = goK List.length xFh (xDz (toN D)) (two D.vars) 0 bu ([D.empty].map pw) := by
    have e0 : ([D.empty].map pw) = [xDd 0 (toN D).st] := by rw [xV6]; rfl
    rw [e0]
    refine yA0 (size := List.length) (bu := bu) (stp := xDz (toN D)) (fun s l r x => xF2 (xOf s l r x)) _ _ _ _ ?_
    have e1 : goK List.length xFi (xDz (toN D)) (two (toN D).vars) 0 bu [xDd 0 (toN D).st] = goK List.length xFh (xDz (toN D)) (two D.vars) 0 bu ([D.empty].map pw) := by rw [e0]; rfl
    rw [e1, h1, List.length_map]
    have : (xEg D).length ≤ D.next.length := hle
    exact Nat.le_trans this hb
  rw [h3]
  exact h1
theorem xU1 {o : List Int} (ho : ∀ a ∈ o, 0 ≤ a) {s : Int} (h0 : 0 ≤ s) : yA6 (o.map pw) (pw s) = xV0 o s := by
  unfold yA6 xV0
  generalize 0 = i
  congr 1
  induction o generalizing i with
  | nil => rfl
  | cons a o ih =>
    rw [List.map_cons]
    unfold xQt xN3
    have ha := ho a (by simp)
    by_cases c : s = a
    · subst c; rw [if_pos rfl, if_pos rfl]
    · rw [if_neg c, if_neg (fun q => c (xV7 h0 ha q))]
      exact ih (fun b hb => ho b (by simp [hb])) (i + 1)
theorem xU2 (hV : Va D) : yCi (toN D) ((xEg D).map pw) = xV3 D := by
  have hok := (xEK hV).1
  have hle := hok.le
  unfold yCi xV3
  rw [List.length_map]
  have e1 : xEv (toN D).vars (yCh (toN D) ((xEg D).map pw)) (xEg D).length (xEg D).length = xEv D.vars (yAU D) (xEg D).length (xEg D).length := by
    refine xQg fun l r x hl hr hx => ?_
    have bl := hok.bd _ (xBF (a := (0 : Int)) hl)
    have br := hok.bd _ (xBF (a := (0 : Int)) hr)
    have hb := xNV hV bl br hx
    unfold yCh yAU
    rw [xNe hl, xNe hr]
    have e : aft (toN D) (pw ((xEg D).getD l 0)) (pw ((xEg D).getD r 0)) x = pw (nx D ((xEg D).getD l 0) ((xEg D).getD r 0) x) := by
      unfold pw
      rw [xOc hV (by omega) (by omega) hx, Int.toNat_of_nonneg bl.1, Int.toNat_of_nonneg br.1]
    rw [e, xU1 (fun a ha => (hok.bd a ha).1) hb.1]
  have e2 : xHM (xZc (toN D) ((xEg D).map pw)) (xEg D).length = xHM (yCf D) (xEg D).length := by
    refine xSG fun l hl => ?_
    have bl := hok.bd _ (xBF (a := (0 : Int)) hl)
    unfold xZc yCf
    rw [xNe hl, Bool.eq_iff_iff, List.any_eq_true]
    generalize (xEg D).getD l 0 = s at *
    constructor
    · rintro ⟨f, h1, h2⟩
      obtain ⟨k, k1, k2, rfl⟩ := mem_fiL.1 h1
      unfold pw at h2
      rw [Int.toNat_natCast, Nat.testBit_two_pow, decide_eq_true_eq] at h2
      rw [h2]; exact k2
    · intro h
      exact ⟨((s.toNat : Nat) : Int), mem_fiL.2 ⟨s.toNat, by omega, h, rfl⟩, by unfold pw; rw [Int.toNat_natCast, Nat.testBit_two_pow, decide_eq_true_eq]⟩
  rw [e1, e2]
  rfl
theorem yA3 {s : Nat} (h : s < 64) : lsW (2 ^ s) 64 = [(s : Int)] := by
  have key : ∀ n, s < n → (List.range n).filter (fun k => (2 ^ s).testBit k) = [s] := by
    intro n
    induction n with
    | zero => intro h; omega
    | succ n ih =>
      intro h
      rw [List.range_succ, List.filter_append]
      by_cases c : s = n
      · subst c
        have e : (List.range s).filter (fun k => (2 ^ s).testBit k) = [] := by
          rw [List.filter_eq_nil_iff]
          intro a ha
          rw [List.mem_range] at ha
          rw [Nat.testBit_two_pow, decide_eq_true_eq]
          omega
        rw [e]
        simp [Nat.testBit_two_pow]
      · rw [ih (by omega)]
        have : (2 ^ s).testBit n = false := by rw [Nat.testBit_two_pow]; simp [c]
        simp [this]
  unfold lsW
  rw [key 64 h]
  rfl
end
end Go.Abs.Det
