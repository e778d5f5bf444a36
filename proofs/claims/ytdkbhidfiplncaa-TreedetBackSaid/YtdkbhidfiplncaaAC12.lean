/- TreedetBack on the interpreter's values. -/
import Derived.Test.YtdkbhidfiplncaaAMF
import Derived.Test.YtdkbhidfiplncaaAMR
import Derived.Test.YtdkbhidfiplncaaAMS
import Derived.Test.YtdkbhidfiplncaaAB14
import Derived.Test.YtdkbhidfiplncaaAMB
import Derived.Test.YtdkbhidfiplncaaAK1
import Derived.Test.YtdkbhidfiplncaaAMD
namespace Go.Abs.Det
open Go Go.Abs
set_option linter.unusedSimpArgs false
set_option linter.unusedVariables false

theorem xXs {o : List Int} {i : Nat} (h : i < o.length) (hb : ∀ s ∈ o, 0 ≤ s ∧ s < 64) : List.take 1 (List.drop i ((o.map pw).map xJy)) = [.sl false 1 [.int .i64 (o.getD i 0)]] := by
  have h0 := hb _ (xBF (a := (0 : Int)) h)
  rw [List.map_map]
  have := xCe (f := xJy ∘ pw) (l := o) (i := i) 0 h
  rw [this]
  generalize o.getD i 0 = s at *
  show [xJy (2 ^ s.toNat)] = _
  unfold xJy
  rw [yA3 (by omega), Int.toNat_of_nonneg h0.1]
  rfl

theorem xMT {o : List Int} {s4 s14 s15 s16 s17 : AV} {H : xAu} (ho : o.length ≤ 64) (hb : ∀ s ∈ o, 0 ≤ s ∧ s < 64) : ∀ d i, i + d = o.length →
    L.loop xQv yBe ⟨xQw s4 (.sl false o.length ((o.map pw).map xJy)) s14 s15 s16 s17 (.int .i64 (i : Nat)), H⟩ = some (.exit 0, ⟨xQw s4 (.sl false o.length ((o.map pw).map xJy)) s14 s15 s16 s17 (.int .i64 (o.length : Nat)), H⟩)
  | 0, i, h => by
    obtain rfl : i = o.length := by omega
    rw [xZd]
    simp (maxSteps := 30000000) (disch := first | assumption | omega | (simp only [List.length_cons, List.length_nil, List.length_append, List.length_set, List.length_replicate, List.length_map, List.length_range, List.length_take, List.length_drop, List.all_cons, List.all_nil, AV.isCell, Bool.and_self, Bool.and_true, xAh, xAb, xAe, xAa, xAa, xAC, List.length_map, xAP, xAE] <;> omega) | rfl | decide) only [xTa, xAp, xAf, xAc, xAk, xAA, opv, List.getD_cons_succ, List.getD_cons_zero, xAq, List.set_cons_succ, List.set_cons_zero, xAi, xBk, xA8, xAl, xAy, xAz, Int.lt_irrefl, decide_false, xAg, xAj, xAd, xAo, xAn, Bool.false_eq_true, ↓reduceIte, xBt, xBc, xA3, xWf]
  | d + 1, i, h => by
    have hlt : (i : Int) < (o.length : Nat) := by omega
    have ih := xMT (s4 := s4) (s14 := s14) (s15 := s15) (s16 := s16) (s17 := s17) (H := H) ho hb d (i + 1) (by omega)
    have g := xXs (i := i) (by omega) hb
    have hSl : ((o.map pw).map xJy).length = o.length := by simp
    generalize ((o.map pw).map xJy) = S at *
    rw [xZd]
    simp (maxSteps := 30000000) (disch := first | assumption | omega | (simp only [List.length_cons, List.length_nil, List.length_append, List.length_set, List.length_replicate, List.length_map, List.length_range, List.length_take, List.length_drop, List.all_cons, List.all_nil, AV.isCell, Bool.and_self, Bool.and_true, xAh, xAb, xAe, xAa, xAa, xAC, List.length_map, xAP, xAE] <;> omega) | rfl | decide) only [xTa, xAp, xAf, xAc, xAk, xAA, opv, List.getD_cons_succ, List.getD_cons_zero, xAq, List.set_cons_succ, List.set_cons_zero, xAi, xBk, xA8, xAl, xAy, xAz, hlt, decide_true, xAg, xAj, xAd, xAo, xAn, ↓reduceIte, xAx, xAr, xAZ, xAY, Int.toNat_natCast, Nat.mul_one, xAJ, xBj, g, xAO, xD8, xBm, Bool.not_true, Bool.false_eq_true, xAs, xBa, xCi, xCV, xAv, xWf, ih]

theorem xNP {D : Da} (hV : Va D) (hn : D.next.length * (D.next.length * two D.vars) ≤ 512) (z : Bool) (t : List Lf) (hl : t.length < 1099511627776) (hx : ∀ e ∈ t, e.x < 256) : ∃ b e, L.pcall 18 [D.av, tw z t] = some (.tup [.bool b, .int .i64 e]) ∧ L.pcall 44 [(toN D).av, tw z t] = some (.tup [.bool b, .int .i64 e]) := by
  obtain ⟨b, s2, s3, s4⟩ := yAR (toN D) z t (xV5 hV hn) hl hx
  have hbe : xJl (toN D) t = xHh t D.vars.toNat := by unfold xJl; rw [if_pos (xOb hV hn)]; rfl
  rw [hbe] at s2 s3 s4
  by_cases he : xHh t D.vars.toNat = 0
  · obtain ⟨T, rfl, q2, q3⟩ := (xMY hV.v0).1 he
    have hbb := s4 he T (xKc q2)
    have r2 := xNc hV z q2 q3
    rw [xYm hV q3] at hbb
    rw [he] at s2
    have : b = D.fin.getD (stB D T).toNat false := by rw [Bool.eq_iff_iff]; exact hbb
    exact ⟨b, 0, by rw [r2, this], s2⟩
  · have r2 := xK5 hV z t hl hx he
    have h3 := s3 he
    rw [h3] at s2
    exact ⟨false, _, r2, s2⟩

set_option maxRecDepth 20000 in
set_option maxHeartbeats 4000000 in
theorem yFn (d : Dfa) (z : Bool) (t : List Lf) (hx : ∀ e ∈ t, e.x < 256) : L.pcall 9 [d.av, tw z t] = some (.bool true) := by
  have hsub := yC9 d
  have hkk := k15
  have e1 : min ((t.length : Nat) : Int) 15 = ((t.take 15).length : Nat) := by rw [List.length_take]; omega
  have l1 : (t.take 15).length ≤ t.length := by rw [List.length_take]; omega
  have k1 : List.take ((t.take 15).length * 3) (lfs t) = lfs (t.take 15) := by
    unfold lfs
    rw [xMZ (enc := xNQ) (k := 3) (fun _ => rfl), xUb]
  have c1 := yAr z (t.take 15) (by rw [List.length_take]; omega)
  have hx1 : ∀ e ∈ t.take 15, e.x < 256 := fun e he => hx e (List.mem_of_mem_take he)
  have m1 : (t.take 15).length ≤ 15 := by rw [List.length_take]; omega
  generalize t.take 15 = a at *
  generalize (a.length == 0) = y1 at *
  by_cases h0 : d.next.length = 0
  · have hb := xKd d.vars (n := 3) (by omega)
    have hs2 : yAt d = .agg [.int .i64 (nrm d.vars 3), .int .i64 0, .sl true 0 [], .sl true 0 []] := if_pos h0
    rw [hs2] at hsub
    have hr1 := xNd (nrm d.vars 3) 0 true true hb.1 (by omega)
    unfold Dfa.av at hsub ⊢
    unfold Dfa.cells at hsub ⊢
    unfold tw at c1 ⊢
    rw [a9p, a9, xA7]
    simp (maxSteps := 30000000) (disch := first | assumption | omega | (simp only [List.length_cons, List.length_nil, List.length_append, List.length_set, List.length_replicate, List.length_map, List.length_range, List.length_take, List.length_drop, List.all_cons, List.all_nil, AV.isCell, Bool.and_self, Bool.and_true, xAh, xAb, xAe, xAa, xAa, xAC, List.length_map, xAP, xAE] <;> omega) | rfl | decide) only [xAU, List.length_cons, List.length_nil, Nat.zero_add, Nat.reduceAdd, Nat.reduceSub, xCL, List.cons_append, List.nil_append, xAp, xAf, xAc, xAk, xBz, AV.cells, opv, List.getD_cons_zero, List.all_cons, AV.isCell, List.all_nil, Bool.and_self, ↓reduceIte, xAq, List.set_cons_succ, List.set_cons_zero, xAi, xAA, xAg, xAj, xAd, xBI, List.take_succ_cons, List.take_zero, xA5, xBf, xBR, xAJ, List.getD_cons_succ, xA1, List.getElem?_cons_zero, xAt, List.drop_zero, List.take_nil, xBH, xAl, xBq, xBC, xBo, xKr, List.map_cons, List.map_nil, xBi, xBL, List.mapM_cons, xCA, xA0, xCa, List.mapM_nil, Option.pure_def, Option.bind_eq_bind, Option.bind_some, Option.map_some, xBh, hsub, xBg, xDT, xCw, Bool.and_true, Bool.and_false, Bool.false_eq_true, xDj, List.flatMap_cons, xIx, xCn, xIw, List.flatMap_nil, List.append_nil, List.foldl_nil, xDC, xCY, Bool.or_true, xCx, xIy, xBk, xA8, xRf, xKp, xHN, e1, xOW, xKo, Option.map_none, xMf, xIt, Int.toNat_natCast, xQ9, Nat.sub_zero, Nat.reduceMul, k1, c1, xVz, xBe, xBn, List.drop_succ_cons, xCt, xBy, xCy, xA4, xBE, List.getElem?_cons_succ, xAX, xBd, List.drop_nil, xAK, xBl, xBJ, hr1, xIu, xEO, xAy, xBm, Int.reduceEq, decide_false, Bool.not_false, xAo, xAn, xBM, decide_true, xAM, xAD, xAV, xAB, xAO, xD8, xBb, xAN, hkk, xAW, xBu, xAI, xAR, xA2, xAw, xAQ, xB2]
  · rw [xSa h0] at hsub
    have hV := xP7 h0
    have hb := xKd d.vars (n := 3) (by omega)
    have h2 : (xUk d).vars ≤ 2 := by show nrm d.vars 3 ≤ 2; omega
    have h8 : (xUk d).next.length ≤ 8 := by simp [xUk]; omega
    generalize xUk d = D at *
    have h4 : two D.vars ≤ 4 := by
      have : D.vars.toNat ≤ 2 := by omega
      exact Nat.pow_le_pow_right (n := 2) (by omega) this
    have hn : D.next.length * (D.next.length * two D.vars) ≤ 512 := by
      have a1 : D.next.length * two D.vars ≤ 8 * 4 := Nat.mul_le_mul h8 h4
      have a2 : D.next.length * (D.next.length * two D.vars) ≤ 8 * (8 * 4) := Nat.mul_le_mul h8 a1
      omega
    have hok := (xEK hV).1
    have hle := hok.le
    have q1 := xYl hV hn
    have q2 := xQl hV
    have hO := xU0 hV (bu := 64) (by omega)
    have hT := xV5 hV hn
    have q3 := xU8 hT (xOb hV hn) (bu := 64) (by omega) (by omega) (by rw [hO, List.length_map]; omega)
    rw [hO, xU2 hV, show ((64 : Nat) : Int) = 64 from rfl] at q3
    have hck := xKX (toN D) hT.st hT.fi hT.rl hT.u8
    rw [xOb hV hn] at hck
    obtain ⟨b, e, q4, q5⟩ := xNP hV hn y1 a (by omega) hx1
    have s1 := xUP (xQk hV)
    have hlp := fun s4 s14 s15 s16 s17 H => xMT (s4 := s4) (s14 := s14) (s15 := s15) (s16 := s16) (s17 := s17) (H := H) (o := xEg D) (by omega) (fun s hs => by have := hok.bd s hs; omega) (xEg D).length 0 (by omega)
    simp only [Int.natCast_zero] at hlp
    unfold xYw at q3
    rw [List.length_map] at q3
    clear hO hT hok
    generalize xV3 D = A at *
    generalize xEg D = o at *
    generalize toN D = N at *
    unfold Da.av at hsub q1 q2 q3 q4 s1
    unfold Da.cells at hsub q1 q2 q3 q4 s1
    unfold Aut.av Aut.cells at q1 q3 q5 hck
    unfold Dfa.av at hsub ⊢
    unfold Dfa.cells at hsub ⊢
    unfold tw at c1 q4 q5 ⊢
    clear hV
    generalize ((o.map pw).map xJy) = S at *
    rw [a9p, a9, xA7]
    simp (maxSteps := 30000000) (disch := first | assumption | omega | (simp only [List.length_cons, List.length_nil, List.length_append, List.length_set, List.length_replicate, List.length_map, List.length_range, List.length_take, List.length_drop, List.all_cons, List.all_nil, AV.isCell, Bool.and_self, Bool.and_true, xAh, xAb, xAe, xAa, xAa, xAC, List.length_map, xAP, xAE] <;> omega) | rfl | decide) only [xAU, List.length_cons, List.length_nil, Nat.zero_add, Nat.reduceAdd, Nat.reduceSub, xCL, List.cons_append, List.nil_append, xAp, xAf, xAc, xAk, xBz, AV.cells, opv, List.getD_cons_zero, List.all_cons, AV.isCell, List.all_nil, Bool.and_self, ↓reduceIte, xAq, List.set_cons_succ, List.set_cons_zero, xAi, xAA, xAg, xAj, xAd, xBI, List.take_succ_cons, List.take_zero, xA5, xBf, xBR, xAJ, List.getD_cons_succ, xA1, List.getElem?_cons_zero, xAt, List.drop_zero, List.take_nil, xBH, xAl, xBq, xBC, xBo, xKr, List.map_cons, List.map_nil, xBi, xBL, List.mapM_cons, xCA, xA0, xCa, List.mapM_nil, Option.pure_def, Option.bind_eq_bind, Option.bind_some, Option.map_some, xBh, hsub, xBg, xDT, xCw, Bool.and_true, Bool.and_false, Bool.false_eq_true, xDj, List.flatMap_cons, xIx, xCn, xIw, List.flatMap_nil, List.append_nil, List.foldl_nil, xDC, xCY, Bool.or_true, xCx, xIy, xBk, xA8, xRf, xKp, xHN, e1, xOW, xKo, Option.map_none, xMf, xIt, Int.toNat_natCast, xQ9, Nat.sub_zero, Nat.reduceMul, k1, c1, xVz, xBe, xBn, List.drop_succ_cons, xCt, xBy, xCy, xA4, xBE, List.getElem?_cons_succ, xAX, xBd, List.drop_nil, xAK, xBl, xBJ, q1, xIu, xEO, xAy, xBm, decide_true, Bool.not_true, xAo, xAn, xAx, q2, q3, q4, q5, xAM, xAD, xBb, xAN, s1, xHI, xE7, hck, xAr, xA6, xWf, hlp, xAS, xQ8, xZL, xBM, hkk, xAW, xAI, xAR, xA2, xAw, xAQ, xB2]

theorem law9t (avs : List AV) (h : xN0 [yDm, TTr] avs) : L.pcall 9 avs = some (.bool true) := by
  obtain ⟨_, r, rfl, h0, h⟩ := xKk h
  obtain ⟨_, r, rfl, h1, h⟩ := xKk h
  obtain rfl := xSC h
  obtain ⟨d, rfl⟩ := xX7 h0
  obtain ⟨z, t, rfl, hx⟩ := xUO (xUN h1)
  exact yFn d z t hx
end Go.Abs.Det
