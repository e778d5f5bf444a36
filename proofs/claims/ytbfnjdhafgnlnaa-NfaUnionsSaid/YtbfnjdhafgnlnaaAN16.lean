/- The law NfaUnions. -/
import Derived.Test.YtbfnjdhafgnlnaaAN15
namespace Go.Abs.Nfa
open Go Go.Abs
set_option linter.unusedSimpArgs false
set_option linter.unusedVariables false

inductive Path (ed : List Ed) : List Nat → Nat → Nat → Prop
  | nil (p : Nat) : Path ed [] p p
  | cons {x : Nat} {w : List Nat} {e : Ed} {q : Nat} (he : e ∈ ed) (hx : xTP e.p e.n x = true) (h : Path ed w e.b.toNat q) : Path ed (x :: w) e.a.toNat q

theorem xOG (ed : List Ed) : ∀ (w : List Nat) (S : Nat → Bool) (j : Nat), xTL ed S w j = true ↔ ∃ i, S i = true ∧ Path ed w i j
  | [], S, j => by
    constructor
    · intro h; exact ⟨j, h, .nil j⟩
    · rintro ⟨i, h, hp⟩; cases hp; exact h
  | x :: w, S, j => by
    have ih := xOG ed w (xNi ed S x) j
    show xTL ed (xNi ed S x) w j = true ↔ _
    rw [ih]
    constructor
    · rintro ⟨i, hi, hp⟩
      simp only [xNi, List.any_eq_true, xNh, Bool.and_eq_true, decide_eq_true_eq] at hi
      obtain ⟨e, he, ⟨h1, h2⟩, rfl⟩ := hi
      exact ⟨_, h2, .cons he h1 hp⟩
    · rintro ⟨i, hi, hp⟩
      cases hp with
      | @cons _ _ e _ he hx h =>
        refine ⟨_, ?_, h⟩
        simp only [xNi, List.any_eq_true, xNh, Bool.and_eq_true, decide_eq_true_eq]
        exact ⟨e, he, ⟨hx, hi⟩, rfl⟩

theorem Path.mono {ed ed' : List Ed} {w : List Nat} {p q : Nat} (hs : ∀ e ∈ ed, e ∈ ed') (h : Path ed w p q) : Path ed' w p q := by
  induction h with
  | nil p => exact .nil p
  | cons he hx h ih => exact .cons (hs _ he) hx ih

theorem xQE {ed eb : List Ed} {s : Nat} (ha : ∀ e ∈ ed, e.a.toNat < s ∧ e.b.toNat < s) (hb : ∀ e ∈ eb, s ≤ e.a.toNat) {w : List Nat} {p q : Nat} (h : Path (ed ++ eb) w p q) : p < s → Path ed w p q ∧ q < s := by
  induction h with
  | nil p => intro h; exact ⟨.nil p, h⟩
  | @cons x w e q he hx h ih =>
    intro hlt
    rcases List.mem_append.1 he with he | he
    · obtain ⟨h1, h2⟩ := ih (ha e he).2
      exact ⟨.cons he hx h1, h2⟩
    · have := hb e he; omega

theorem xPf {ed eb : List Ed} {sa : Int} (h0 : 0 ≤ sa) (ha : ∀ e ∈ ed, e.a.toNat < sa.toNat) (hb : ∀ e ∈ eb, 0 ≤ e.a ∧ 0 ≤ e.b) {w : List Nat} {p q : Nat} (h : Path (ed ++ eb.map (shE sa)) w p q) : ∀ i, p = sa.toNat + i → ∃ j, q = sa.toNat + j ∧ Path eb w i j := by
  induction h with
  | nil p => intro i e; exact ⟨i, e, .nil i⟩
  | @cons x w e q he hx h ih =>
    intro i ei
    rcases List.mem_append.1 he with he | he
    · have := ha e he; omega
    · obtain ⟨e', he', rfl⟩ := List.mem_map.1 he
      have hn := hb e' he'
      have e1 : (shE sa e').a.toNat = sa.toNat + e'.a.toNat := by show (sa + e'.a).toNat = _; omega
      have e2 : (shE sa e').b.toNat = sa.toNat + e'.b.toNat := by show (sa + e'.b).toNat = _; omega
      obtain ⟨j, h1, h2⟩ := ih e'.b.toNat e2
      have : i = e'.a.toNat := by omega
      subst this
      exact ⟨j, h1, .cons he' hx h2⟩

theorem xPg {ed eb : List Ed} {sa : Int} (h0 : 0 ≤ sa) (hb : ∀ e ∈ eb, 0 ≤ e.a ∧ 0 ≤ e.b) {w : List Nat} {p q : Nat} (h : Path eb w p q) : Path (ed ++ eb.map (shE sa)) w (sa.toNat + p) (sa.toNat + q) := by
  induction h with
  | nil p => exact .nil _
  | @cons x w e q he hx h ih =>
    have hn := hb e he
    have e1 : sa.toNat + e.a.toNat = (shE sa e).a.toNat := by show _ = (sa + e.a).toNat; omega
    have e2 : sa.toNat + e.b.toNat = (shE sa e).b.toNat := by show _ = (sa + e.b).toNat; omega
    rw [e1]
    refine .cons (List.mem_append_right _ (List.mem_map_of_mem he)) hx ?_
    rw [← e2]; exact ih

theorem xTc (l m : List Int) (sa : Int) (j : Nat) : inS (l ++ m.map (sa + ·)) j = true ↔ inS l j = true ∨ ∃ q ∈ m, sa + q = j := by
  simp [inS]

theorem xTd {a b : Aut} (va : Valid a) (vb : Valid b) (fa : Fits a) (fb : Fits b) (z1 z2 z3 : Bool) (w : List Nat) : xTM (xMv a b z1 z2 z3) w ↔ xTM a w ∨ xTM b w := by
  have ea : ∀ e ∈ a.ed, e.a.toNat < a.states.toNat ∧ e.b.toNat < a.states.toNat := fun e he => by
    have := xPj (xLh va.ed e he); omega
  have eb : ∀ e ∈ b.ed, 0 ≤ e.a ∧ 0 ≤ e.b := fun e he => by
    have := xPj (xLh vb.ed e he); omega
  have eb' : ∀ e ∈ b.ed.map (shE a.states), a.states.toNat ≤ e.a.toNat := fun e he => by
    obtain ⟨e', he', rfl⟩ := List.mem_map.1 he
    have := eb e' he'
    show _ ≤ (a.states + e'.a).toNat
    have := va.s0; omega
  have sst : ∀ j, inS a.st j = true → j < a.states.toNat := fun j hj => by
    have := xHP va.st j (by simpa [inS] using hj); omega
  have sfi : ∀ j, inS a.fi j = true → j < a.states.toNat := fun j hj => by
    have := xHP va.fi j (by simpa [inS] using hj); omega
  have h0 := va.s0
  have bst : ∀ q ∈ b.st, 0 ≤ q := fun q hq => (vb.st64 q hq).1
  have bfi : ∀ q ∈ b.fi, 0 ≤ q := fun q hq => (vb.fi64 q hq).1
  unfold xTM
  simp only [xOG]
  show (∃ j, (∃ i, inS (a.st ++ b.st.map (a.states + ·)) i = true ∧ Path (a.ed ++ b.ed.map (shE a.states)) w i j) ∧ inS (a.fi ++ b.fi.map (a.states + ·)) j = true) ↔ _
  simp only [xTc]
  constructor
  · rintro ⟨j, ⟨i, hi, hp⟩, hj⟩
    rcases hi with hi | ⟨q, hq, e⟩
    · obtain ⟨h1, h2⟩ := xQE ea eb' hp (sst i hi)
      rcases hj with hj | ⟨q, hq, e⟩
      · exact .inl ⟨j, ⟨i, hi, h1⟩, hj⟩
      · have := bfi q hq; omega
    · have hq0 := bst q hq
      obtain ⟨j', e', h1⟩ := xPf h0 (fun e he => (ea e he).1) eb hp q.toNat (by omega)
      rcases hj with hj | ⟨q', hq', e2⟩
      · have := sfi j hj; omega
      · have hq0' := bfi q' hq'
        refine .inr ⟨j', ⟨q.toNat, ?_, h1⟩, ?_⟩
        · simp only [inS, List.contains_iff_mem]
          rw [Int.toNat_of_nonneg hq0]; exact hq
        · simp only [inS, List.contains_iff_mem]
          have : (j' : Int) = q' := by omega
          rw [this]; exact hq'
  · rintro (⟨j, ⟨i, hi, hp⟩, hj⟩ | ⟨j, ⟨i, hi, hp⟩, hj⟩)
    · exact ⟨j, ⟨i, .inl hi, hp.mono fun e he => List.mem_append_left _ he⟩, .inl hj⟩
    · simp only [inS, List.contains_iff_mem] at hi hj
      exact ⟨a.states.toNat + j, ⟨a.states.toNat + i, .inr ⟨i, hi, by omega⟩, xPg h0 eb hp⟩, .inr ⟨j, hj, by omega⟩⟩

theorem xOH {s s' : Int} (h : s ≤ s') : ∀ {l : List Int} {last : Int}, xIL s last l = true → xIL s' last l = true
  | [], _, _ => rfl
  | q :: l, last, hl => by
    unfold xIL at hl ⊢
    split at hl
    · cases hl
    · rename_i hn
      rw [if_neg (by omega)]
      exact xOH h hl

theorem xLf {sa sb : Int} : ∀ {l : List Int} {last last' : Int}, xIL sb last l = true → last' ≤ sa + last → xIL (sa + sb) last' (l.map (sa + ·)) = true
  | [], _, _, _, _ => rfl
  | q :: l, last, last', hl, hle => by
    unfold xIL at hl
    split at hl
    · cases hl
    · rename_i hn
      show xIL (sa + sb) last' ((sa + q) :: l.map (sa + ·)) = true
      unfold xIL
      rw [if_neg (by omega)]
      exact xLf hl (by omega)

theorem xQF {sa s : Int} {m : List Int} (hm : ∀ last, last < sa → xIL s last m = true) : ∀ {l : List Int} {last : Int}, xIL s last l = true → (∀ q ∈ l, q < sa) → last < sa → xIL s last (l ++ m) = true
  | [], last, _, _, h => hm last h
  | q :: l, last, hl, hq, h => by
    unfold xIL at hl
    split at hl
    · cases hl
    · rename_i hn
      show xIL s last (q :: (l ++ m)) = true
      unfold xIL
      rw [if_neg hn]
      exact xQF hm hl (fun q' h' => hq q' (by simp [h'])) (hq q (by simp))

theorem xQG {s : Int} {v : Nat} : ∀ {l : List Ed}, (∀ e ∈ l, xIM s v e = 0) → xIf s v l = 0
  | [], _ => rfl
  | e :: l, h => by rw [xLj (h e (by simp))]; exact xQG fun e' he' => h e' (by simp [he'])

theorem xQH {a b : Aut} (va : Valid a) (vb : Valid b) (hv : a.vars = b.vars) (hs : a.states + b.states ≤ 64) (he : a.ed.length + b.ed.length ≤ 512) (z1 z2 z3 : Bool) : Valid (xMv a b z1 z2 z3) := by
  have h0 := va.s0
  have h0' := vb.s0
  have one : ∀ {l m : List Int}, xIL a.states (-1) l = true → xIL b.states (-1) m = true → xIL (a.states + b.states) (-1) (l ++ m.map (a.states + ·)) = true := by
    intro l m hl hm
    by_cases hz : a.states = 0
    · have hnil : l = [] := by
        cases l with
        | nil => rfl
        | cons q l => have := xHP hl q (by simp); omega
      subst hnil
      exact xLf hm (by omega)
    · exact xQF (sa := a.states) (fun last h => xLf hm (by omega)) (xOH (by omega) hl) (fun q hq => (xHP hl q hq).2) (by omega)
  refine ⟨va.v0, va.v6, by show 0 ≤ a.states + b.states; omega, hs, ?_, one va.st vb.st, one va.fi vb.fi, ?_⟩
  · show (a.ed ++ b.ed.map (shE a.states)).length ≤ 512
    simpa using he
  · show xIf (a.states + b.states) a.vars.toNat (a.ed ++ b.ed.map (shE a.states)) = 0
    refine xQG fun e hm => ?_
    rcases List.mem_append.1 hm with hm | hm
    · have h := xPj (xLh va.ed e hm)
      unfold xIM
      rw [if_neg (by omega)]; exact h.2.2.2.2
    · obtain ⟨e', he', rfl⟩ := List.mem_map.1 hm
      have h := xPj (xLh vb.ed e' he')
      unfold xIM
      have e1 : (shE a.states e').a = a.states + e'.a := rfl
      have e2 : (shE a.states e').b = a.states + e'.b := rfl
      rw [if_neg (by rw [e1, e2]; omega), hv]
      exact h.2.2.2.2

theorem xRC {a b : Aut} (fa : Fits a) (fb : Fits b) (h1 : a.st.length + b.st.length < 1099511627776) (h2 : a.fi.length + b.fi.length < 1099511627776) (h3 : a.ed.length + b.ed.length < 1099511627776) (z1 z2 z3 : Bool) : Fits (xMv a b z1 z2 z3) := by
  refine ⟨by simpa [xMv] using h1, by simpa [xMv] using h2, by simpa [xMv] using h3, fun e he => ?_⟩
  rcases List.mem_append.1 he with he | he
  · exact fa.by_ e he
  · obtain ⟨e', he', rfl⟩ := List.mem_map.1 he
    exact fb.by_ e' he'

def lng (n : Aut) : Bool := decide (100 < n.st.length) || decide (100 < n.fi.length) || decide (520 < n.ed.length)

theorem xUo (n m : Aut) : L.pcall 8 [.sl false 2 (n.cells ++ m.cells)] = some (.bool (lng n || lng m)) := by
  have e1 : ((100 : Int) < (n.st.length : Nat)) = (100 < n.st.length) := propext ⟨fun h => by omega, fun h => by omega⟩
  have e2 : ((100 : Int) < (n.fi.length : Nat)) = (100 < n.fi.length) := propext ⟨fun h => by omega, fun h => by omega⟩
  have e3 : ((520 : Int) < (n.ed.length : Nat)) = (520 < n.ed.length) := propext ⟨fun h => by omega, fun h => by omega⟩
  have d1 : ((100 : Int) < (m.st.length : Nat)) = (100 < m.st.length) := propext ⟨fun h => by omega, fun h => by omega⟩
  have d2 : ((100 : Int) < (m.fi.length : Nat)) = (100 < m.fi.length) := propext ⟨fun h => by omega, fun h => by omega⟩
  have d3 : ((520 : Int) < (m.ed.length : Nat)) = (520 < m.ed.length) := propext ⟨fun h => by omega, fun h => by omega⟩
  unfold lng
  rw [a8p, a8, xAt]
  by_cases c1 : 100 < n.st.length
  · simp (maxSteps := 2000000) (disch := first | assumption | omega | (simp only [List.length_cons, List.length_nil, List.length_append, List.length_set, List.length_replicate, List.length_map, List.length_range, List.length_take, List.length_drop, List.all_cons, List.all_nil, AV.isCell, Bool.and_self, Bool.and_true, xAe, xAb, xAc, xAa, xAd] <;> omega) | rfl | decide) only [xDW, xAu, xBG, xCN, xBH, xCO, xCP, xAR, xBI, xAv, xAi, xAS, xAw, xAT, xAn, xAU, xBJ, xBK, xBL, xBM, xCQ, xAV, xCR, xBN, xCS, xDX, xBO, xBP, xAW, xAx, xBQ, xBR, xCT, xDY, xDZ, xBS, xCU, xBT, xAX, xAy, xAY, xD0, xD1, xCV, xAZ, xA0, xBU, xBV, xAz, xAA, xA1, xAB, xAC, xA2, apart, xGZ, xAD, xAo, xA3, xA4, xBW, xCW, xCX, xA5, xBX, xA6, xAE, xAp, xAF, xBY, xBZ, xCY, xEY, xA7, xD2, xEZ, xCZ, xB0, xC0, xC1, xB1, xB2, xD3, xD4, xD5, xE0, xB3, xD6, xE1, xB4, xAG, xC2, xC3, xB5, xB6, xA8, xB7, xE2, xD7, xD8, xD9, xEa, xEb, xEc, xE3, xEd, xA9, xEe, xEf, xEg, xEh, xEi, xEj, xEk, xEl, xE4, xE5, xE6, xBa, xBb, xAH, xAI, xC4, xFQ, xE7, xE8, xE9, xB8, xEm, xB9, xC5, xBc, xC6, xCa, xBd, xEn, xC7, xCb, xCc, xCd, xCe, xBe, xAJ, xC8, xBf, xFR, xFS, xC9, xCf, xBg, xDa, xDb, xFa, xEo, xDc, xFb, xFc, xDd, xFd, xBz, xDe, xDf, xAK, xFe, xEp, xBh, xBi, xCg, xDg, xDh, xEq, xEr, xCh, xCi, xDq, xCj, xCk, xEG, xDr, xAL, xDs, xAM, xAN, xBl, xEH, xAq, xDt, xFr, xCl, xCm, xDu, xFs, xEI, xDv, xCn, xEJ, xCo, xFt, xFu, xDw, xFT, xEK, xCp, xBm, xDx, xDy, xDz, xDA, xFv, xFw, xFx, xFy, xEL, xEM, xDB, xCq, xBn, xAr, xCr, xBo, xCs, xCD, xAO, xAP, xBp, xAt, xBq, xEN, xDC, xCt, xCu, xCv, xDD, xCw, xCx, xCy, xAQ, xCM, xAf, xAj, xAh, xAk, xAg, xAl, xAs, xAm, xBr, xBs, List.zip_cons_cons, List.zip_nil_right, List.zip_nil_left, opv, xFD, xCA, xBv, xGG, xFH, xFF, xFG, List.foldl_nil, List.foldl_cons, List.map_nil, List.map_cons, ite_self, Bool.not_true, Bool.not_false, Bool.or_true, Bool.true_or, Bool.false_or, Bool.or_false, List.length_cons, List.length_nil, List.length_append, List.append_assoc, xG1, List.cons_append, List.nil_append, List.getD_cons_succ, List.getD_cons_zero, List.set_cons_succ, List.set_cons_zero, AV.cells, List.all_cons, List.all_nil, AV.isCell, Bool.and_self, Bool.and_true, Bool.true_and, Bool.and_false, Bool.false_and, if_true, if_false, Bool.false_eq_true, Bool.true_eq_false, Option.map_some, Option.map_none, xES, xFE, List.getElem?_cons_zero, List.getElem?_cons_succ, List.drop_zero, List.drop_succ_cons, List.take_succ_cons, List.take_zero, List.drop_nil, List.take_nil, Nat.zero_add, Nat.reduceAdd, Nat.reduceSub, Nat.reduceLeDiff, Nat.reduceMul, xDO, xDi, xEv, xDj, xDk, xEw, xDl, xFp, xEx, xEy, xEz, xBj, decide_true, decide_false, decide_eq_true_eq, decide_eq_false_iff_not, Bool.not_eq_true', Bool.not_eq_eq_eq_not, ne_eq, not_false_eq_true, not_true_eq_false, and_self, and_true, true_and, List.mapM_cons, List.mapM_nil, Option.pure_def, Option.bind_eq_bind, Option.bind_some, xGb, Nat.le_refl, List.append_nil, List.flatMap_nil, List.flatMap_cons, xDN, xDm, xEA, xDn, xDo, xEB, xDp, xEC, xFq, xED, xEE, xEF, xBk, xEX, xCL, List.isEmpty_nil, beq_self_eq_true, Nat.mul_one, Nat.add_zero, Nat.sub_zero, Int.toNat_natCast, Int.toNat_zero, Int.toNat_one, Int.reduceAdd, Int.reduceSub, Int.reduceMul, Int.reduceLT, Int.reduceLE, Int.reduceEq, Int.reduceToNat, Int.reduceNeg, Int.zero_add, Int.add_zero, Int.sub_zero, Int.natCast_zero, Int.natCast_one, Int.lt_irrefl, Int.zero_tmod, Nat.reduceEqDiff, Nat.reduceBEq, Nat.reduceLT, xAe, xDP, xDQ, xEV, xEW, xBE, xDV, xEU, xAb, xBx, xBy, xCJ, xCK, xBD, xCG, xBC, xDU, List.length_replicate, List.length_set, List.take_length, List.drop_length, xBF, xFf, xFg, xFh, xFi, xFj, xFk, xFl, xFm, xFn, xFo, xEs, xEt, xEu, xGE, xFL, xGd, xFN, xG2, xFM, List.modify_cons, xG3, xDT, xG4, xFO, xG5, xFP, xFK, xFJ, xG6, xGH, xG0, xAc, xCH, xCI, xEO, xEP, xDE, xEQ, xDR, xDS, xER, xAa, xBA, xBB, xDF, xDG, xCz, xCF, xDH, xCE, xDI, xBt, xFI, xBu, xDJ, xDK, xDL, xAd, xET, xFB, xFC, xKM, xKN, xJ6, e1, c1]
  by_cases c2 : 100 < n.fi.length
  · simp (maxSteps := 2000000) (disch := first | assumption | omega | (simp only [List.length_cons, List.length_nil, List.length_append, List.length_set, List.length_replicate, List.length_map, List.length_range, List.length_take, List.length_drop, List.all_cons, List.all_nil, AV.isCell, Bool.and_self, Bool.and_true, xAe, xAb, xAc, xAa, xAd] <;> omega) | rfl | decide) only [xDW, xAu, xBG, xCN, xBH, xCO, xCP, xAR, xBI, xAv, xAi, xAS, xAw, xAT, xAn, xAU, xBJ, xBK, xBL, xBM, xCQ, xAV, xCR, xBN, xCS, xDX, xBO, xBP, xAW, xAx, xBQ, xBR, xCT, xDY, xDZ, xBS, xCU, xBT, xAX, xAy, xAY, xD0, xD1, xCV, xAZ, xA0, xBU, xBV, xAz, xAA, xA1, xAB, xAC, xA2, apart, xGZ, xAD, xAo, xA3, xA4, xBW, xCW, xCX, xA5, xBX, xA6, xAE, xAp, xAF, xBY, xBZ, xCY, xEY, xA7, xD2, xEZ, xCZ, xB0, xC0, xC1, xB1, xB2, xD3, xD4, xD5, xE0, xB3, xD6, xE1, xB4, xAG, xC2, xC3, xB5, xB6, xA8, xB7, xE2, xD7, xD8, xD9, xEa, xEb, xEc, xE3, xEd, xA9, xEe, xEf, xEg, xEh, xEi, xEj, xEk, xEl, xE4, xE5, xE6, xBa, xBb, xAH, xAI, xC4, xFQ, xE7, xE8, xE9, xB8, xEm, xB9, xC5, xBc, xC6, xCa, xBd, xEn, xC7, xCb, xCc, xCd, xCe, xBe, xAJ, xC8, xBf, xFR, xFS, xC9, xCf, xBg, xDa, xDb, xFa, xEo, xDc, xFb, xFc, xDd, xFd, xBz, xDe, xDf, xAK, xFe, xEp, xBh, xBi, xCg, xDg, xDh, xEq, xEr, xCh, xCi, xDq, xCj, xCk, xEG, xDr, xAL, xDs, xAM, xAN, xBl, xEH, xAq, xDt, xFr, xCl, xCm, xDu, xFs, xEI, xDv, xCn, xEJ, xCo, xFt, xFu, xDw, xFT, xEK, xCp, xBm, xDx, xDy, xDz, xDA, xFv, xFw, xFx, xFy, xEL, xEM, xDB, xCq, xBn, xAr, xCr, xBo, xCs, xCD, xAO, xAP, xBp, xAt, xBq, xEN, xDC, xCt, xCu, xCv, xDD, xCw, xCx, xCy, xAQ, xCM, xAf, xAj, xAh, xAk, xAg, xAl, xAs, xAm, xBr, xBs, List.zip_cons_cons, List.zip_nil_right, List.zip_nil_left, opv, xFD, xCA, xBv, xGG, xFH, xFF, xFG, List.foldl_nil, List.foldl_cons, List.map_nil, List.map_cons, ite_self, Bool.not_true, Bool.not_false, Bool.or_true, Bool.true_or, Bool.false_or, Bool.or_false, List.length_cons, List.length_nil, List.length_append, List.append_assoc, xG1, List.cons_append, List.nil_append, List.getD_cons_succ, List.getD_cons_zero, List.set_cons_succ, List.set_cons_zero, AV.cells, List.all_cons, List.all_nil, AV.isCell, Bool.and_self, Bool.and_true, Bool.true_and, Bool.and_false, Bool.false_and, if_true, if_false, Bool.false_eq_true, Bool.true_eq_false, Option.map_some, Option.map_none, xES, xFE, List.getElem?_cons_zero, List.getElem?_cons_succ, List.drop_zero, List.drop_succ_cons, List.take_succ_cons, List.take_zero, List.drop_nil, List.take_nil, Nat.zero_add, Nat.reduceAdd, Nat.reduceSub, Nat.reduceLeDiff, Nat.reduceMul, xDO, xDi, xEv, xDj, xDk, xEw, xDl, xFp, xEx, xEy, xEz, xBj, decide_true, decide_false, decide_eq_true_eq, decide_eq_false_iff_not, Bool.not_eq_true', Bool.not_eq_eq_eq_not, ne_eq, not_false_eq_true, not_true_eq_false, and_self, and_true, true_and, List.mapM_cons, List.mapM_nil, Option.pure_def, Option.bind_eq_bind, Option.bind_some, xGb, Nat.le_refl, List.append_nil, List.flatMap_nil, List.flatMap_cons, xDN, xDm, xEA, xDn, xDo, xEB, xDp, xEC, xFq, xED, xEE, xEF, xBk, xEX, xCL, List.isEmpty_nil, beq_self_eq_true, Nat.mul_one, Nat.add_zero, Nat.sub_zero, Int.toNat_natCast, Int.toNat_zero, Int.toNat_one, Int.reduceAdd, Int.reduceSub, Int.reduceMul, Int.reduceLT, Int.reduceLE, Int.reduceEq, Int.reduceToNat, Int.reduceNeg, Int.zero_add, Int.add_zero, Int.sub_zero, Int.natCast_zero, Int.natCast_one, Int.lt_irrefl, Int.zero_tmod, Nat.reduceEqDiff, Nat.reduceBEq, Nat.reduceLT, xAe, xDP, xDQ, xEV, xEW, xBE, xDV, xEU, xAb, xBx, xBy, xCJ, xCK, xBD, xCG, xBC, xDU, List.length_replicate, List.length_set, List.take_length, List.drop_length, xBF, xFf, xFg, xFh, xFi, xFj, xFk, xFl, xFm, xFn, xFo, xEs, xEt, xEu, xGE, xFL, xGd, xFN, xG2, xFM, List.modify_cons, xG3, xDT, xG4, xFO, xG5, xFP, xFK, xFJ, xG6, xGH, xG0, xAc, xCH, xCI, xEO, xEP, xDE, xEQ, xDR, xDS, xER, xAa, xBA, xBB, xDF, xDG, xCz, xCF, xDH, xCE, xDI, xBt, xFI, xBu, xDJ, xDK, xDL, xAd, xET, xFB, xFC, xKM, xKN, xJ6, e1, e2, c1, c2]
  by_cases c3 : 520 < n.ed.length
  · simp (maxSteps := 2000000) (disch := first | assumption | omega | (simp only [List.length_cons, List.length_nil, List.length_append, List.length_set, List.length_replicate, List.length_map, List.length_range, List.length_take, List.length_drop, List.all_cons, List.all_nil, AV.isCell, Bool.and_self, Bool.and_true, xAe, xAb, xAc, xAa, xAd] <;> omega) | rfl | decide) only [xDW, xAu, xBG, xCN, xBH, xCO, xCP, xAR, xBI, xAv, xAi, xAS, xAw, xAT, xAn, xAU, xBJ, xBK, xBL, xBM, xCQ, xAV, xCR, xBN, xCS, xDX, xBO, xBP, xAW, xAx, xBQ, xBR, xCT, xDY, xDZ, xBS, xCU, xBT, xAX, xAy, xAY, xD0, xD1, xCV, xAZ, xA0, xBU, xBV, xAz, xAA, xA1, xAB, xAC, xA2, apart, xGZ, xAD, xAo, xA3, xA4, xBW, xCW, xCX, xA5, xBX, xA6, xAE, xAp, xAF, xBY, xBZ, xCY, xEY, xA7, xD2, xEZ, xCZ, xB0, xC0, xC1, xB1, xB2, xD3, xD4, xD5, xE0, xB3, xD6, xE1, xB4, xAG, xC2, xC3, xB5, xB6, xA8, xB7, xE2, xD7, xD8, xD9, xEa, xEb, xEc, xE3, xEd, xA9, xEe, xEf, xEg, xEh, xEi, xEj, xEk, xEl, xE4, xE5, xE6, xBa, xBb, xAH, xAI, xC4, xFQ, xE7, xE8, xE9, xB8, xEm, xB9, xC5, xBc, xC6, xCa, xBd, xEn, xC7, xCb, xCc, xCd, xCe, xBe, xAJ, xC8, xBf, xFR, xFS, xC9, xCf, xBg, xDa, xDb, xFa, xEo, xDc, xFb, xFc, xDd, xFd, xBz, xDe, xDf, xAK, xFe, xEp, xBh, xBi, xCg, xDg, xDh, xEq, xEr, xCh, xCi, xDq, xCj, xCk, xEG, xDr, xAL, xDs, xAM, xAN, xBl, xEH, xAq, xDt, xFr, xCl, xCm, xDu, xFs, xEI, xDv, xCn, xEJ, xCo, xFt, xFu, xDw, xFT, xEK, xCp, xBm, xDx, xDy, xDz, xDA, xFv, xFw, xFx, xFy, xEL, xEM, xDB, xCq, xBn, xAr, xCr, xBo, xCs, xCD, xAO, xAP, xBp, xAt, xBq, xEN, xDC, xCt, xCu, xCv, xDD, xCw, xCx, xCy, xAQ, xCM, xAf, xAj, xAh, xAk, xAg, xAl, xAs, xAm, xBr, xBs, List.zip_cons_cons, List.zip_nil_right, List.zip_nil_left, opv, xFD, xCA, xBv, xGG, xFH, xFF, xFG, List.foldl_nil, List.foldl_cons, List.map_nil, List.map_cons, ite_self, Bool.not_true, Bool.not_false, Bool.or_true, Bool.true_or, Bool.false_or, Bool.or_false, List.length_cons, List.length_nil, List.length_append, List.append_assoc, xG1, List.cons_append, List.nil_append, List.getD_cons_succ, List.getD_cons_zero, List.set_cons_succ, List.set_cons_zero, AV.cells, List.all_cons, List.all_nil, AV.isCell, Bool.and_self, Bool.and_true, Bool.true_and, Bool.and_false, Bool.false_and, if_true, if_false, Bool.false_eq_true, Bool.true_eq_false, Option.map_some, Option.map_none, xES, xFE, List.getElem?_cons_zero, List.getElem?_cons_succ, List.drop_zero, List.drop_succ_cons, List.take_succ_cons, List.take_zero, List.drop_nil, List.take_nil, Nat.zero_add, Nat.reduceAdd, Nat.reduceSub, Nat.reduceLeDiff, Nat.reduceMul, xDO, xDi, xEv, xDj, xDk, xEw, xDl, xFp, xEx, xEy, xEz, xBj, decide_true, decide_false, decide_eq_true_eq, decide_eq_false_iff_not, Bool.not_eq_true', Bool.not_eq_eq_eq_not, ne_eq, not_false_eq_true, not_true_eq_false, and_self, and_true, true_and, List.mapM_cons, List.mapM_nil, Option.pure_def, Option.bind_eq_bind, Option.bind_some, xGb, Nat.le_refl, List.append_nil, List.flatMap_nil, List.flatMap_cons, xDN, xDm, xEA, xDn, xDo, xEB, xDp, xEC, xFq, xED, xEE, xEF, xBk, xEX, xCL, List.isEmpty_nil, beq_self_eq_true, Nat.mul_one, Nat.add_zero, Nat.sub_zero, Int.toNat_natCast, Int.toNat_zero, Int.toNat_one, Int.reduceAdd, Int.reduceSub, Int.reduceMul, Int.reduceLT, Int.reduceLE, Int.reduceEq, Int.reduceToNat, Int.reduceNeg, Int.zero_add, Int.add_zero, Int.sub_zero, Int.natCast_zero, Int.natCast_one, Int.lt_irrefl, Int.zero_tmod, Nat.reduceEqDiff, Nat.reduceBEq, Nat.reduceLT, xAe, xDP, xDQ, xEV, xEW, xBE, xDV, xEU, xAb, xBx, xBy, xCJ, xCK, xBD, xCG, xBC, xDU, List.length_replicate, List.length_set, List.take_length, List.drop_length, xBF, xFf, xFg, xFh, xFi, xFj, xFk, xFl, xFm, xFn, xFo, xEs, xEt, xEu, xGE, xFL, xGd, xFN, xG2, xFM, List.modify_cons, xG3, xDT, xG4, xFO, xG5, xFP, xFK, xFJ, xG6, xGH, xG0, xAc, xCH, xCI, xEO, xEP, xDE, xEQ, xDR, xDS, xER, xAa, xBA, xBB, xDF, xDG, xCz, xCF, xDH, xCE, xDI, xBt, xFI, xBu, xDJ, xDK, xDL, xAd, xET, xFB, xFC, xKM, xKN, xJ6, e1, e2, e3, c1, c2, c3]
  by_cases k1 : 100 < m.st.length
  · simp (maxSteps := 2000000) (disch := first | assumption | omega | (simp only [List.length_cons, List.length_nil, List.length_append, List.length_set, List.length_replicate, List.length_map, List.length_range, List.length_take, List.length_drop, List.all_cons, List.all_nil, AV.isCell, Bool.and_self, Bool.and_true, xAe, xAb, xAc, xAa, xAd] <;> omega) | rfl | decide) only [xDW, xAu, xBG, xCN, xBH, xCO, xCP, xAR, xBI, xAv, xAi, xAS, xAw, xAT, xAn, xAU, xBJ, xBK, xBL, xBM, xCQ, xAV, xCR, xBN, xCS, xDX, xBO, xBP, xAW, xAx, xBQ, xBR, xCT, xDY, xDZ, xBS, xCU, xBT, xAX, xAy, xAY, xD0, xD1, xCV, xAZ, xA0, xBU, xBV, xAz, xAA, xA1, xAB, xAC, xA2, apart, xGZ, xAD, xAo, xA3, xA4, xBW, xCW, xCX, xA5, xBX, xA6, xAE, xAp, xAF, xBY, xBZ, xCY, xEY, xA7, xD2, xEZ, xCZ, xB0, xC0, xC1, xB1, xB2, xD3, xD4, xD5, xE0, xB3, xD6, xE1, xB4, xAG, xC2, xC3, xB5, xB6, xA8, xB7, xE2, xD7, xD8, xD9, xEa, xEb, xEc, xE3, xEd, xA9, xEe, xEf, xEg, xEh, xEi, xEj, xEk, xEl, xE4, xE5, xE6, xBa, xBb, xAH, xAI, xC4, xFQ, xE7, xE8, xE9, xB8, xEm, xB9, xC5, xBc, xC6, xCa, xBd, xEn, xC7, xCb, xCc, xCd, xCe, xBe, xAJ, xC8, xBf, xFR, xFS, xC9, xCf, xBg, xDa, xDb, xFa, xEo, xDc, xFb, xFc, xDd, xFd, xBz, xDe, xDf, xAK, xFe, xEp, xBh, xBi, xCg, xDg, xDh, xEq, xEr, xCh, xCi, xDq, xCj, xCk, xEG, xDr, xAL, xDs, xAM, xAN, xBl, xEH, xAq, xDt, xFr, xCl, xCm, xDu, xFs, xEI, xDv, xCn, xEJ, xCo, xFt, xFu, xDw, xFT, xEK, xCp, xBm, xDx, xDy, xDz, xDA, xFv, xFw, xFx, xFy, xEL, xEM, xDB, xCq, xBn, xAr, xCr, xBo, xCs, xCD, xAO, xAP, xBp, xAt, xBq, xEN, xDC, xCt, xCu, xCv, xDD, xCw, xCx, xCy, xAQ, xCM, xAf, xAj, xAh, xAk, xAg, xAl, xAs, xAm, xBr, xBs, List.zip_cons_cons, List.zip_nil_right, List.zip_nil_left, opv, xFD, xCA, xBv, xGG, xFH, xFF, xFG, List.foldl_nil, List.foldl_cons, List.map_nil, List.map_cons, ite_self, Bool.not_true, Bool.not_false, Bool.or_true, Bool.true_or, Bool.false_or, Bool.or_false, List.length_cons, List.length_nil, List.length_append, List.append_assoc, xG1, List.cons_append, List.nil_append, List.getD_cons_succ, List.getD_cons_zero, List.set_cons_succ, List.set_cons_zero, AV.cells, List.all_cons, List.all_nil, AV.isCell, Bool.and_self, Bool.and_true, Bool.true_and, Bool.and_false, Bool.false_and, if_true, if_false, Bool.false_eq_true, Bool.true_eq_false, Option.map_some, Option.map_none, xES, xFE, List.getElem?_cons_zero, List.getElem?_cons_succ, List.drop_zero, List.drop_succ_cons, List.take_succ_cons, List.take_zero, List.drop_nil, List.take_nil, Nat.zero_add, Nat.reduceAdd, Nat.reduceSub, Nat.reduceLeDiff, Nat.reduceMul, xDO, xDi, xEv, xDj, xDk, xEw, xDl, xFp, xEx, xEy, xEz, xBj, decide_true, decide_false, decide_eq_true_eq, decide_eq_false_iff_not, Bool.not_eq_true', Bool.not_eq_eq_eq_not, ne_eq, not_false_eq_true, not_true_eq_false, and_self, and_true, true_and, List.mapM_cons, List.mapM_nil, Option.pure_def, Option.bind_eq_bind, Option.bind_some, xGb, Nat.le_refl, List.append_nil, List.flatMap_nil, List.flatMap_cons, xDN, xDm, xEA, xDn, xDo, xEB, xDp, xEC, xFq, xED, xEE, xEF, xBk, xEX, xCL, List.isEmpty_nil, beq_self_eq_true, Nat.mul_one, Nat.add_zero, Nat.sub_zero, Int.toNat_natCast, Int.toNat_zero, Int.toNat_one, Int.reduceAdd, Int.reduceSub, Int.reduceMul, Int.reduceLT, Int.reduceLE, Int.reduceEq, Int.reduceToNat, Int.reduceNeg, Int.zero_add, Int.add_zero, Int.sub_zero, Int.natCast_zero, Int.natCast_one, Int.lt_irrefl, Int.zero_tmod, Nat.reduceEqDiff, Nat.reduceBEq, Nat.reduceLT, xAe, xDP, xDQ, xEV, xEW, xBE, xDV, xEU, xAb, xBx, xBy, xCJ, xCK, xBD, xCG, xBC, xDU, List.length_replicate, List.length_set, List.take_length, List.drop_length, xBF, xFf, xFg, xFh, xFi, xFj, xFk, xFl, xFm, xFn, xFo, xEs, xEt, xEu, xGE, xFL, xGd, xFN, xG2, xFM, List.modify_cons, xG3, xDT, xG4, xFO, xG5, xFP, xFK, xFJ, xG6, xGH, xG0, xAc, xCH, xCI, xEO, xEP, xDE, xEQ, xDR, xDS, xER, xAa, xBA, xBB, xDF, xDG, xCz, xCF, xDH, xCE, xDI, xBt, xFI, xBu, xDJ, xDK, xDL, xAd, xET, xFB, xFC, xKM, xKN, xJ6, e1, e2, e3, c1, c2, c3, d1, k1]
  by_cases k2 : 100 < m.fi.length
  · simp (maxSteps := 2000000) (disch := first | assumption | omega | (simp only [List.length_cons, List.length_nil, List.length_append, List.length_set, List.length_replicate, List.length_map, List.length_range, List.length_take, List.length_drop, List.all_cons, List.all_nil, AV.isCell, Bool.and_self, Bool.and_true, xAe, xAb, xAc, xAa, xAd] <;> omega) | rfl | decide) only [xDW, xAu, xBG, xCN, xBH, xCO, xCP, xAR, xBI, xAv, xAi, xAS, xAw, xAT, xAn, xAU, xBJ, xBK, xBL, xBM, xCQ, xAV, xCR, xBN, xCS, xDX, xBO, xBP, xAW, xAx, xBQ, xBR, xCT, xDY, xDZ, xBS, xCU, xBT, xAX, xAy, xAY, xD0, xD1, xCV, xAZ, xA0, xBU, xBV, xAz, xAA, xA1, xAB, xAC, xA2, apart, xGZ, xAD, xAo, xA3, xA4, xBW, xCW, xCX, xA5, xBX, xA6, xAE, xAp, xAF, xBY, xBZ, xCY, xEY, xA7, xD2, xEZ, xCZ, xB0, xC0, xC1, xB1, xB2, xD3, xD4, xD5, xE0, xB3, xD6, xE1, xB4, xAG, xC2, xC3, xB5, xB6, xA8, xB7, xE2, xD7, xD8, xD9, xEa, xEb, xEc, xE3, xEd, xA9, xEe, xEf, xEg, xEh, xEi, xEj, xEk, xEl, xE4, xE5, xE6, xBa, xBb, xAH, xAI, xC4, xFQ, xE7, xE8, xE9, xB8, xEm, xB9, xC5, xBc, xC6, xCa, xBd, xEn, xC7, xCb, xCc, xCd, xCe, xBe, xAJ, xC8, xBf, xFR, xFS, xC9, xCf, xBg, xDa, xDb, xFa, xEo, xDc, xFb, xFc, xDd, xFd, xBz, xDe, xDf, xAK, xFe, xEp, xBh, xBi, xCg, xDg, xDh, xEq, xEr, xCh, xCi, xDq, xCj, xCk, xEG, xDr, xAL, xDs, xAM, xAN, xBl, xEH, xAq, xDt, xFr, xCl, xCm, xDu, xFs, xEI, xDv, xCn, xEJ, xCo, xFt, xFu, xDw, xFT, xEK, xCp, xBm, xDx, xDy, xDz, xDA, xFv, xFw, xFx, xFy, xEL, xEM, xDB, xCq, xBn, xAr, xCr, xBo, xCs, xCD, xAO, xAP, xBp, xAt, xBq, xEN, xDC, xCt, xCu, xCv, xDD, xCw, xCx, xCy, xAQ, xCM, xAf, xAj, xAh, xAk, xAg, xAl, xAs, xAm, xBr, xBs, List.zip_cons_cons, List.zip_nil_right, List.zip_nil_left, opv, xFD, xCA, xBv, xGG, xFH, xFF, xFG, List.foldl_nil, List.foldl_cons, List.map_nil, List.map_cons, ite_self, Bool.not_true, Bool.not_false, Bool.or_true, Bool.true_or, Bool.false_or, Bool.or_false, List.length_cons, List.length_nil, List.length_append, List.append_assoc, xG1, List.cons_append, List.nil_append, List.getD_cons_succ, List.getD_cons_zero, List.set_cons_succ, List.set_cons_zero, AV.cells, List.all_cons, List.all_nil, AV.isCell, Bool.and_self, Bool.and_true, Bool.true_and, Bool.and_false, Bool.false_and, if_true, if_false, Bool.false_eq_true, Bool.true_eq_false, Option.map_some, Option.map_none, xES, xFE, List.getElem?_cons_zero, List.getElem?_cons_succ, List.drop_zero, List.drop_succ_cons, List.take_succ_cons, List.take_zero, List.drop_nil, List.take_nil, Nat.zero_add, Nat.reduceAdd, Nat.reduceSub, Nat.reduceLeDiff, Nat.reduceMul, xDO, xDi, xEv, xDj, xDk, xEw, xDl, xFp, xEx, xEy, xEz, xBj, decide_true, decide_false, decide_eq_true_eq, decide_eq_false_iff_not, Bool.not_eq_true', Bool.not_eq_eq_eq_not, ne_eq, not_false_eq_true, not_true_eq_false, and_self, and_true, true_and, List.mapM_cons, List.mapM_nil, Option.pure_def, Option.bind_eq_bind, Option.bind_some, xGb, Nat.le_refl, List.append_nil, List.flatMap_nil, List.flatMap_cons, xDN, xDm, xEA, xDn, xDo, xEB, xDp, xEC, xFq, xED, xEE, xEF, xBk, xEX, xCL, List.isEmpty_nil, beq_self_eq_true, Nat.mul_one, Nat.add_zero, Nat.sub_zero, Int.toNat_natCast, Int.toNat_zero, Int.toNat_one, Int.reduceAdd, Int.reduceSub, Int.reduceMul, Int.reduceLT, Int.reduceLE, Int.reduceEq, Int.reduceToNat, Int.reduceNeg, Int.zero_add, Int.add_zero, Int.sub_zero, Int.natCast_zero, Int.natCast_one, Int.lt_irrefl, Int.zero_tmod, Nat.reduceEqDiff, Nat.reduceBEq, Nat.reduceLT, xAe, xDP, xDQ, xEV, xEW, xBE, xDV, xEU, xAb, xBx, xBy, xCJ, xCK, xBD, xCG, xBC, xDU, List.length_replicate, List.length_set, List.take_length, List.drop_length, xBF, xFf, xFg, xFh, xFi, xFj, xFk, xFl, xFm, xFn, xFo, xEs, xEt, xEu, xGE, xFL, xGd, xFN, xG2, xFM, List.modify_cons, xG3, xDT, xG4, xFO, xG5, xFP, xFK, xFJ, xG6, xGH, xG0, xAc, xCH, xCI, xEO, xEP, xDE, xEQ, xDR, xDS, xER, xAa, xBA, xBB, xDF, xDG, xCz, xCF, xDH, xCE, xDI, xBt, xFI, xBu, xDJ, xDK, xDL, xAd, xET, xFB, xFC, xKM, xKN, xJ6, e1, e2, e3, c1, c2, c3, d1, d2, k1, k2]
  by_cases k3 : 520 < m.ed.length
  · simp (maxSteps := 2000000) (disch := first | assumption | omega | (simp only [List.length_cons, List.length_nil, List.length_append, List.length_set, List.length_replicate, List.length_map, List.length_range, List.length_take, List.length_drop, List.all_cons, List.all_nil, AV.isCell, Bool.and_self, Bool.and_true, xAe, xAb, xAc, xAa, xAd] <;> omega) | rfl | decide) only [xDW, xAu, xBG, xCN, xBH, xCO, xCP, xAR, xBI, xAv, xAi, xAS, xAw, xAT, xAn, xAU, xBJ, xBK, xBL, xBM, xCQ, xAV, xCR, xBN, xCS, xDX, xBO, xBP, xAW, xAx, xBQ, xBR, xCT, xDY, xDZ, xBS, xCU, xBT, xAX, xAy, xAY, xD0, xD1, xCV, xAZ, xA0, xBU, xBV, xAz, xAA, xA1, xAB, xAC, xA2, apart, xGZ, xAD, xAo, xA3, xA4, xBW, xCW, xCX, xA5, xBX, xA6, xAE, xAp, xAF, xBY, xBZ, xCY, xEY, xA7, xD2, xEZ, xCZ, xB0, xC0, xC1, xB1, xB2, xD3, xD4, xD5, xE0, xB3, xD6, xE1, xB4, xAG, xC2, xC3, xB5, xB6, xA8, xB7, xE2, xD7, xD8, xD9, xEa, xEb, xEc, xE3, xEd, xA9, xEe, xEf, xEg, xEh, xEi, xEj, xEk, xEl, xE4, xE5, xE6, xBa, xBb, xAH, xAI, xC4, xFQ, xE7, xE8, xE9, xB8, xEm, xB9, xC5, xBc, xC6, xCa, xBd, xEn, xC7, xCb, xCc, xCd, xCe, xBe, xAJ, xC8, xBf, xFR, xFS, xC9, xCf, xBg, xDa, xDb, xFa, xEo, xDc, xFb, xFc, xDd, xFd, xBz, xDe, xDf, xAK, xFe, xEp, xBh, xBi, xCg, xDg, xDh, xEq, xEr, xCh, xCi, xDq, xCj, xCk, xEG, xDr, xAL, xDs, xAM, xAN, xBl, xEH, xAq, xDt, xFr, xCl, xCm, xDu, xFs, xEI, xDv, xCn, xEJ, xCo, xFt, xFu, xDw, xFT, xEK, xCp, xBm, xDx, xDy, xDz, xDA, xFv, xFw, xFx, xFy, xEL, xEM, xDB, xCq, xBn, xAr, xCr, xBo, xCs, xCD, xAO, xAP, xBp, xAt, xBq, xEN, xDC, xCt, xCu, xCv, xDD, xCw, xCx, xCy, xAQ, xCM, xAf, xAj, xAh, xAk, xAg, xAl, xAs, xAm, xBr, xBs, List.zip_cons_cons, List.zip_nil_right, List.zip_nil_left, opv, xFD, xCA, xBv, xGG, xFH, xFF, xFG, List.foldl_nil, List.foldl_cons, List.map_nil, List.map_cons, ite_self, Bool.not_true, Bool.not_false, Bool.or_true, Bool.true_or, Bool.false_or, Bool.or_false, List.length_cons, List.length_nil, List.length_append, List.append_assoc, xG1, List.cons_append, List.nil_append, List.getD_cons_succ, List.getD_cons_zero, List.set_cons_succ, List.set_cons_zero, AV.cells, List.all_cons, List.all_nil, AV.isCell, Bool.and_self, Bool.and_true, Bool.true_and, Bool.and_false, Bool.false_and, if_true, if_false, Bool.false_eq_true, Bool.true_eq_false, Option.map_some, Option.map_none, xES, xFE, List.getElem?_cons_zero, List.getElem?_cons_succ, List.drop_zero, List.drop_succ_cons, List.take_succ_cons, List.take_zero, List.drop_nil, List.take_nil, Nat.zero_add, Nat.reduceAdd, Nat.reduceSub, Nat.reduceLeDiff, Nat.reduceMul, xDO, xDi, xEv, xDj, xDk, xEw, xDl, xFp, xEx, xEy, xEz, xBj, decide_true, decide_false, decide_eq_true_eq, decide_eq_false_iff_not, Bool.not_eq_true', Bool.not_eq_eq_eq_not, ne_eq, not_false_eq_true, not_true_eq_false, and_self, and_true, true_and, List.mapM_cons, List.mapM_nil, Option.pure_def, Option.bind_eq_bind, Option.bind_some, xGb, Nat.le_refl, List.append_nil, List.flatMap_nil, List.flatMap_cons, xDN, xDm, xEA, xDn, xDo, xEB, xDp, xEC, xFq, xED, xEE, xEF, xBk, xEX, xCL, List.isEmpty_nil, beq_self_eq_true, Nat.mul_one, Nat.add_zero, Nat.sub_zero, Int.toNat_natCast, Int.toNat_zero, Int.toNat_one, Int.reduceAdd, Int.reduceSub, Int.reduceMul, Int.reduceLT, Int.reduceLE, Int.reduceEq, Int.reduceToNat, Int.reduceNeg, Int.zero_add, Int.add_zero, Int.sub_zero, Int.natCast_zero, Int.natCast_one, Int.lt_irrefl, Int.zero_tmod, Nat.reduceEqDiff, Nat.reduceBEq, Nat.reduceLT, xAe, xDP, xDQ, xEV, xEW, xBE, xDV, xEU, xAb, xBx, xBy, xCJ, xCK, xBD, xCG, xBC, xDU, List.length_replicate, List.length_set, List.take_length, List.drop_length, xBF, xFf, xFg, xFh, xFi, xFj, xFk, xFl, xFm, xFn, xFo, xEs, xEt, xEu, xGE, xFL, xGd, xFN, xG2, xFM, List.modify_cons, xG3, xDT, xG4, xFO, xG5, xFP, xFK, xFJ, xG6, xGH, xG0, xAc, xCH, xCI, xEO, xEP, xDE, xEQ, xDR, xDS, xER, xAa, xBA, xBB, xDF, xDG, xCz, xCF, xDH, xCE, xDI, xBt, xFI, xBu, xDJ, xDK, xDL, xAd, xET, xFB, xFC, xKM, xKN, xJ6, e1, e2, e3, c1, c2, c3, d1, d2, d3, k1, k2, k3]
  · simp (maxSteps := 2000000) (disch := first | assumption | omega | (simp only [List.length_cons, List.length_nil, List.length_append, List.length_set, List.length_replicate, List.length_map, List.length_range, List.length_take, List.length_drop, List.all_cons, List.all_nil, AV.isCell, Bool.and_self, Bool.and_true, xAe, xAb, xAc, xAa, xAd] <;> omega) | rfl | decide) only [xDW, xAu, xBG, xCN, xBH, xCO, xCP, xAR, xBI, xAv, xAi, xAS, xAw, xAT, xAn, xAU, xBJ, xBK, xBL, xBM, xCQ, xAV, xCR, xBN, xCS, xDX, xBO, xBP, xAW, xAx, xBQ, xBR, xCT, xDY, xDZ, xBS, xCU, xBT, xAX, xAy, xAY, xD0, xD1, xCV, xAZ, xA0, xBU, xBV, xAz, xAA, xA1, xAB, xAC, xA2, apart, xGZ, xAD, xAo, xA3, xA4, xBW, xCW, xCX, xA5, xBX, xA6, xAE, xAp, xAF, xBY, xBZ, xCY, xEY, xA7, xD2, xEZ, xCZ, xB0, xC0, xC1, xB1, xB2, xD3, xD4, xD5, xE0, xB3, xD6, xE1, xB4, xAG, xC2, xC3, xB5, xB6, xA8, xB7, xE2, xD7, xD8, xD9, xEa, xEb, xEc, xE3, xEd, xA9, xEe, xEf, xEg, xEh, xEi, xEj, xEk, xEl, xE4, xE5, xE6, xBa, xBb, xAH, xAI, xC4, xFQ, xE7, xE8, xE9, xB8, xEm, xB9, xC5, xBc, xC6, xCa, xBd, xEn, xC7, xCb, xCc, xCd, xCe, xBe, xAJ, xC8, xBf, xFR, xFS, xC9, xCf, xBg, xDa, xDb, xFa, xEo, xDc, xFb, xFc, xDd, xFd, xBz, xDe, xDf, xAK, xFe, xEp, xBh, xBi, xCg, xDg, xDh, xEq, xEr, xCh, xCi, xDq, xCj, xCk, xEG, xDr, xAL, xDs, xAM, xAN, xBl, xEH, xAq, xDt, xFr, xCl, xCm, xDu, xFs, xEI, xDv, xCn, xEJ, xCo, xFt, xFu, xDw, xFT, xEK, xCp, xBm, xDx, xDy, xDz, xDA, xFv, xFw, xFx, xFy, xEL, xEM, xDB, xCq, xBn, xAr, xCr, xBo, xCs, xCD, xAO, xAP, xBp, xAt, xBq, xEN, xDC, xCt, xCu, xCv, xDD, xCw, xCx, xCy, xAQ, xCM, xAf, xAj, xAh, xAk, xAg, xAl, xAs, xAm, xBr, xBs, List.zip_cons_cons, List.zip_nil_right, List.zip_nil_left, opv, xFD, xCA, xBv, xGG, xFH, xFF, xFG, List.foldl_nil, List.foldl_cons, List.map_nil, List.map_cons, ite_self, Bool.not_true, Bool.not_false, Bool.or_true, Bool.true_or, Bool.false_or, Bool.or_false, List.length_cons, List.length_nil, List.length_append, List.append_assoc, xG1, List.cons_append, List.nil_append, List.getD_cons_succ, List.getD_cons_zero, List.set_cons_succ, List.set_cons_zero, AV.cells, List.all_cons, List.all_nil, AV.isCell, Bool.and_self, Bool.and_true, Bool.true_and, Bool.and_false, Bool.false_and, if_true, if_false, Bool.false_eq_true, Bool.true_eq_false, Option.map_some, Option.map_none, xES, xFE, List.getElem?_cons_zero, List.getElem?_cons_succ, List.drop_zero, List.drop_succ_cons, List.take_succ_cons, List.take_zero, List.drop_nil, List.take_nil, Nat.zero_add, Nat.reduceAdd, Nat.reduceSub, Nat.reduceLeDiff, Nat.reduceMul, xDO, xDi, xEv, xDj, xDk, xEw, xDl, xFp, xEx, xEy, xEz, xBj, decide_true, decide_false, decide_eq_true_eq, decide_eq_false_iff_not, Bool.not_eq_true', Bool.not_eq_eq_eq_not, ne_eq, not_false_eq_true, not_true_eq_false, and_self, and_true, true_and, List.mapM_cons, List.mapM_nil, Option.pure_def, Option.bind_eq_bind, Option.bind_some, xGb, Nat.le_refl, List.append_nil, List.flatMap_nil, List.flatMap_cons, xDN, xDm, xEA, xDn, xDo, xEB, xDp, xEC, xFq, xED, xEE, xEF, xBk, xEX, xCL, List.isEmpty_nil, beq_self_eq_true, Nat.mul_one, Nat.add_zero, Nat.sub_zero, Int.toNat_natCast, Int.toNat_zero, Int.toNat_one, Int.reduceAdd, Int.reduceSub, Int.reduceMul, Int.reduceLT, Int.reduceLE, Int.reduceEq, Int.reduceToNat, Int.reduceNeg, Int.zero_add, Int.add_zero, Int.sub_zero, Int.natCast_zero, Int.natCast_one, Int.lt_irrefl, Int.zero_tmod, Nat.reduceEqDiff, Nat.reduceBEq, Nat.reduceLT, xAe, xDP, xDQ, xEV, xEW, xBE, xDV, xEU, xAb, xBx, xBy, xCJ, xCK, xBD, xCG, xBC, xDU, List.length_replicate, List.length_set, List.take_length, List.drop_length, xBF, xFf, xFg, xFh, xFi, xFj, xFk, xFl, xFm, xFn, xFo, xEs, xEt, xEu, xGE, xFL, xGd, xFN, xG2, xFM, List.modify_cons, xG3, xDT, xG4, xFO, xG5, xFP, xFK, xFJ, xG6, xGH, xG0, xAc, xCH, xCI, xEO, xEP, xDE, xEQ, xDR, xDS, xER, xAa, xBA, xBB, xDF, xDG, xCz, xCF, xDH, xCE, xDI, xBt, xFI, xBu, xDJ, xDK, xDL, xAd, xET, xFB, xFC, xKM, xKN, xJ6, e1, e2, e3, c1, c2, c3, d1, d2, d3, k1, k2, k3]
end Go.Abs.Nfa
