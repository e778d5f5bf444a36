/- Values over the caller's own blocks: what they stand for, and that other blocks do not matter. -/
import Derived.Test.YtdkbhidfiplncaaAbsEnc2
import Derived.Test.YtdkbhidfiplncaaAProg
namespace Go.Abs.Det
open Go Go.Abs
set_option linter.unusedSimpArgs false
set_option linter.unusedVariables false

theorem xKa {α β : Type} {f g : α → Option β} : ∀ {l : List α}, (∀ a ∈ l, f a = g a) → l.mapM f = l.mapM g
  | [], _ => rfl
  | a :: l, h => by
    rw [List.mapM_cons, List.mapM_cons, h a (by simp), xKa (fun b hb => h b (by simp [hb]))]

theorem xEi {G G' : xAA} : ∀ (d : Nat) (v : AV), (∀ b ∈ bor d G v, G'[b]? = G[b]?) → frz d G' v = frz d G v ∧ bor d G' v = bor d G v := by
  intro d
  induction d with
  | zero =>
    intro v h
    cases v <;> first | exact ⟨rfl, rfl⟩ | (rename_i f caps; cases caps <;> exact ⟨rfl, rfl⟩)
  | succ d ih =>
    intro v h
    have many : ∀ cs : List AV, (∀ b ∈ cs.flatMap (bor d G), G'[b]? = G[b]?) → cs.mapM (frz d G') = cs.mapM (frz d G) ∧ cs.flatMap (bor d G') = cs.flatMap (bor d G) := by
      intro cs hcs
      refine ⟨xKa fun a ha => (ih a fun b hb => hcs b (List.mem_flatMap.2 ⟨a, ha, hb⟩)).1, ?_⟩
      induction cs with
      | nil => rfl
      | cons c cs ih2 =>
        simp only [List.flatMap_cons] at hcs ⊢
        rw [(ih c fun b hb => hcs b (List.mem_append.2 (.inl hb))).2, ih2 fun b hb => hcs b (List.mem_append.2 (.inr hb))]
    cases v
    case own z id off n es =>
      have h0 := h id (by simp [bor])
      simp only [frz, bor, h0]
      cases hG : G[id]? with
      | none => simp
      | some bk =>
        cases bk with
        | dead => simp
        | mp es => simp
        | loop => simp
        | cells fz z' cs =>
          obtain ⟨m1, m2⟩ := many ((cs.drop off).take (n * es)) (fun b hb => h b (by simp only [bor, hG]; exact List.mem_cons_of_mem _ hb))
          simp [m1, m2]
    case ptr id off =>
      have h0 := h id (by simp [bor])
      simp only [frz, bor, h0]
      cases hG : G[id]? with
      | none => simp
      | some bk =>
        cases bk with
        | dead => simp
        | mp es => simp
        | loop => simp
        | cells fz z' cs =>
          obtain ⟨m1, m2⟩ := many cs (fun b hb => h b (by simp only [bor, hG]; exact List.mem_cons_of_mem _ hb))
          simp [m1, m2]
    case agg cs =>
      obtain ⟨m1, m2⟩ := many cs h
      simp [frz, bor, m1, m2]
    case tup cs =>
      obtain ⟨m1, m2⟩ := many cs h
      simp [frz, bor, m1, m2]
    case func f caps => cases caps <;> exact ⟨rfl, rfl⟩
    all_goals exact ⟨rfl, rfl⟩

def Fz (k : Nat) (G : xAA) (B : Nat) (v t : AV) : Prop := ∀ d, k ≤ d → frz d G v = some t ∧ ∀ b ∈ bor d G v, B ≤ b ∧ b < G.length

theorem Fz.frame {k B : Nat} {G G' : xAA} {v t : AV} (h : Fz k G B v t) (hl : G.length ≤ G'.length) (he : ∀ d, k ≤ d → ∀ b ∈ bor d G v, G'[b]? = G[b]?) : Fz k G' B v t := by
  intro d hd
  obtain ⟨h1, h2⟩ := h d hd
  obtain ⟨f1, f2⟩ := xEi d v (he d hd)
  exact ⟨f1.trans h1, fun b hb => by rw [f2] at hb; have := h2 b hb; omega⟩
theorem Fz.grow {k B : Nat} {G G' : xAA} {v t : AV} (h : Fz k G B v t) (hl : G.length ≤ G'.length) (he : ∀ b, B ≤ b → b < G.length → G'[b]? = G[b]?) : Fz k G' B v t :=
  h.frame hl fun d hd b hb => by have := (h d hd).2 b hb; exact he b this.1 this.2
theorem Fz.low {k B B' : Nat} {G : xAA} {v t : AV} (h : Fz k G B v t) (hb : B' ≤ B) : Fz k G B' v t :=
  fun d hd => ⟨(h d hd).1, fun b hb' => by have := (h d hd).2 b hb'; omega⟩

theorem Fz.data {G : xAA} {B : Nat} {v : AV} (h : xCA v = true) : Fz 0 G B v v := by
  intro d _
  cases v <;> simp [xCA] at h
  case func f caps =>
    cases caps with
    | nil => exact ⟨by cases d <;> rfl, fun b hb => by cases d <;> simp [bor] at hb⟩
    | cons => simp at h
  all_goals exact ⟨by cases d <;> rfl, fun b hb => by cases d <;> simp [bor] at hb⟩

theorem Fz.row {G : xAA} {B id es n : Nat} {cs : List AV} (hG : G[id]? = some (.cells false false cs)) (hd : cs.all xCA = true) (hn : cs.length = n * es) (hB : B ≤ id) : Fz 1 G B (.own false id 0 n es) (.sl false n cs) := by
  intro d hd1
  have hlt := (List.getElem?_eq_some_iff.1 hG).1
  obtain ⟨d, rfl⟩ : ∃ e, d = e + 1 := ⟨d - 1, by omega⟩
  have all : ∀ cs : List AV, cs.all xCA = true → cs.mapM (frz d G) = some cs ∧ cs.flatMap (bor d G) = [] := by
    intro cs h
    induction cs with
    | nil => exact ⟨rfl, rfl⟩
    | cons c cs ih =>
      simp only [List.all_cons, Bool.and_eq_true] at h
      obtain ⟨i1, i2⟩ := ih h.2
      obtain ⟨f1, f2⟩ := Fz.data (G := G) (B := G.length) h.1 d (Nat.zero_le _)
      have f3 : bor d G c = [] := by
        cases e : bor d G c with
        | nil => rfl
        | cons b l => have := f2 b (by rw [e]; simp); omega
      simp [List.mapM_cons, f1, i1, i2, f3]
  obtain ⟨a1, a2⟩ := all cs hd
  have htk : (cs.drop 0).take (n * es) = cs := by rw [List.drop_zero, List.take_of_length_le (by omega)]
  refine ⟨?_, fun b hb => ?_⟩
  · simp only [frz, hG, htk, a1]
    rw [if_pos (by omega)]
    rfl
  · simp only [bor, hG, htk, a2, List.mem_singleton] at hb
    subst hb
    exact ⟨hB, hlt⟩

theorem xHM {α β : Type} {f : α → Option β} : ∀ {l : List α} {r : List β}, l.length = r.length → (∀ (i : Nat) (a : α) (b : β), l[i]? = some a → r[i]? = some b → f a = some b) → l.mapM f = some r
  | [], [], _, _ => rfl
  | [], _ :: _, h, _ => by simp at h
  | _ :: _, [], h, _ => by simp at h
  | a :: l, b :: r, h, hf => by
    have h0 := hf 0 a b rfl rfl
    have ih := xHM (f := f) (l := l) (r := r) (by simpa using h) (fun i x y h1 h2 => hf (i + 1) x y (by simpa using h1) (by simpa using h2))
    simp [List.mapM_cons, h0, ih]

def Grow (k : Nat) (G : xAA) (B : Nat) (v : AV) (ts : List AV) : Prop :=
  (ts = [] ∧ v = .sl true 0 []) ∨ ∃ id cs, v = .own false id 0 ts.length 1 ∧ G[id]? = some (.cells false false cs) ∧ B ≤ id ∧ cs.length = ts.length ∧
    ∀ (i : Nat) (c t : AV), cs[i]? = some c → ts[i]? = some t → Fz k G B c t ∧ ∀ d, k ≤ d → id ∉ bor d G c

theorem Grow.grow {k B : Nat} {G G' : xAA} {v : AV} {ts : List AV} (h : Grow k G B v ts) (hl : G.length ≤ G'.length) (he : ∀ b, B ≤ b → b < G.length → G'[b]? = G[b]?) : Grow k G' B v ts := by
  rcases h with h | ⟨id, cs, h1, h2, h3, h4, h5⟩
  · exact .inl h
  · have hlt := (List.getElem?_eq_some_iff.1 h2).1
    refine .inr ⟨id, cs, h1, by rw [he id h3 hlt]; exact h2, h3, h4, fun i c t hc ht => ?_⟩
    obtain ⟨g1, g2⟩ := h5 i c t hc ht
    refine ⟨g1.grow hl he, fun d hd hm => g2 d hd ?_⟩
    rw [(xEi d c (fun b hb => by have := (g1 d hd).2 b hb; exact he b this.1 this.2)).2] at hm
    exact hm

theorem Grow.fz {k B : Nat} {G : xAA} {v : AV} {ts : List AV} (h : Grow k G B v ts) : Fz (k + 1) G B v (.sl (ts.length == 0) ts.length ts) ∨ ts = [] := by
  rcases h with ⟨rfl, rfl⟩ | ⟨id, cs, rfl, h2, h3, h4, h5⟩
  · exact .inr rfl
  · by_cases h0 : ts = []
    · exact .inr h0
    left
    have hz : (ts.length == 0) = false := by
      cases ts with
      | nil => exact absurd rfl h0
      | cons => rfl
    rw [hz]
    intro d hd
    have hlt := (List.getElem?_eq_some_iff.1 h2).1
    obtain ⟨d, rfl⟩ : ∃ e, d = e + 1 := ⟨d - 1, by omega⟩
    have htk : (cs.drop 0).take (ts.length * 1) = cs := by rw [List.drop_zero, List.take_of_length_le (by omega)]
    have hm := xHM (f := frz d G) h4 (fun i a b ha hb => ((h5 i a b ha hb).1 d (by omega)).1)
    refine ⟨?_, fun b hb => ?_⟩
    · simp only [frz, h2, htk, hm]
      rw [if_pos (by omega)]
      rfl
    · simp only [bor, h2, htk, List.mem_cons, List.mem_flatMap] at hb
      rcases hb with rfl | ⟨c, hc, hb⟩
      · exact ⟨h3, hlt⟩
      · obtain ⟨i, hi, e⟩ := List.mem_iff_getElem.1 hc
        have hc' : cs[i]? = some c := by rw [List.getElem?_eq_getElem hi, e]
        exact ((h5 i c _ hc' (List.getElem?_eq_getElem (by omega))).1 d (by omega)).2 b hb

theorem Grow.first {k B : Nat} {G : xAA} {c t : AV} (hc : Fz k G B c t) (hB : B ≤ G.length) : Grow k (G ++ [.cells false false [c]]) B (.own false G.length 0 1 1) [t] := by
  refine .inr ⟨G.length, [c], rfl, by simp, hB, rfl, fun i a b ha hb => ?_⟩
  have e : i = 0 := by
    cases i with
    | zero => rfl
    | succ i => simp at ha
  subst e
  simp at ha hb
  subst ha; subst hb
  have hext : ∀ b, b < G.length → (G ++ [Blk.cells false false [c]])[b]? = G[b]? := fun b hb => List.getElem?_append_left hb
  refine ⟨hc.grow (by simp) (fun b _ hb => hext b hb), fun d hd hm => ?_⟩
  rw [(xEi d c (fun b hb => hext b ((hc d hd).2 b hb).2)).2] at hm
  have := (hc d hd).2 _ hm
  omega

theorem Grow.push {k B id : Nat} {G : xAA} {ts cs : List AV} {c t : AV} (h2 : G[id]? = some (.cells false false cs)) (h3 : B ≤ id) (h4 : cs.length = ts.length)
    (h5 : ∀ (i : Nat) (c t : AV), cs[i]? = some c → ts[i]? = some t → Fz k G B c t ∧ ∀ d, k ≤ d → id ∉ bor d G c) (hc : Fz k G B c t) (hn : ∀ d, k ≤ d → id ∉ bor d G c) :
    Grow k (G.set id .dead ++ [.cells false false (cs ++ [c])]) B (.own false G.length 0 (ts.length + 1) 1) (ts ++ [t]) := by
  have hlt := (List.getElem?_eq_some_iff.1 h2).1
  refine .inr ⟨G.length, cs ++ [c], by simp, by rw [List.getElem?_append_right (by simp)]; simp, by omega, by simp [h4], fun i a b ha hb => ?_⟩
  have key : Fz k G B a b ∧ ∀ d, k ≤ d → id ∉ bor d G a := by
    by_cases hi : i < cs.length
    · rw [List.getElem?_append_left hi] at ha
      rw [List.getElem?_append_left (by omega)] at hb
      exact h5 i a b ha hb
    · rw [List.getElem?_append_right (by omega)] at ha
      rw [List.getElem?_append_right (by omega)] at hb
      have e : i - cs.length = 0 := by
        cases e : i - cs.length with
        | zero => rfl
        | succ j => rw [e] at ha; simp at ha
      rw [e] at ha
      rw [← h4, e] at hb
      simp at ha hb
      subst ha; subst hb
      exact ⟨hc, hn⟩
  obtain ⟨f1, f2⟩ := key
  have hext : ∀ d, k ≤ d → ∀ b ∈ bor d G a, (G.set id .dead ++ [Blk.cells false false (cs ++ [c])])[b]? = G[b]? := fun d hd b hb => by
    have := ((f1 d hd).2 b hb).2
    have hne : id ≠ b := by rintro rfl; exact f2 d hd hb
    rw [List.getElem?_append_left (by simpa using this), List.getElem?_set_ne hne]
  refine ⟨f1.frame (by simp) hext, fun d hd hm => ?_⟩
  rw [(xEi d a (hext d hd)).2] at hm
  have := ((f1 d hd).2 _ hm).2
  omega

end Go.Abs.Det

/- Trees: end, formed, Check. -/
namespace Go.Abs.Det
open Go Go.Abs
set_option linter.unusedSimpArgs false
set_option linter.unusedVariables false

noncomputable abbrev L : Rec := lim xAy

abbrev iw (z : Bool) (l : List Int) : AV := .sl z l.length (xCK l)
theorem xFG {l : List Int} {i : Nat} (h : i < l.length) : l.drop i = l.getD i 0 :: l.drop (i + 1) := by
  rw [List.drop_eq_getElem_cons h]
  simp [List.getD, List.getElem?_eq_getElem h]
theorem xBL {G X : xAA} {b : Nat} {x : Blk} (h : G[b]? = some x) : (G ++ X)[b]? = some x := by
  rw [List.getElem?_append_left (List.getElem?_eq_some_iff.1 h).1]; exact h
theorem xHZ {α : Type} (k : Nat) (l : List α) : List.take (l.take k).length l = l.take k := by
  rw [List.length_take]
  rcases Nat.le_total k l.length with h | h
  · rw [Nat.min_eq_left h]
  · rw [Nat.min_eq_right h, List.take_of_length_le h, List.take_of_length_le (Nat.le_refl _)]

structure Lf where
  x : Nat
  l : Int
  r : Int
def f0 : Lf := ⟨0, 0, 0⟩
def xNj (e : Lf) : List AV := [.int .u8 (e.x : Nat), .int .i64 e.l, .int .i64 e.r]
def lfs (l : List Lf) : List AV := rows xNj l
abbrev tw (z : Bool) (t : List Lf) : AV := .sl z t.length (lfs t)
theorem xAC (l : List Lf) : (lfs l).length = l.length * 3 := xJb (enc := xNj) (k := 3) (fun _ => rfl) l
theorem xH0 {l : List Lf} {i : Nat} (h : i < l.length) : List.drop (i * 3) (lfs l) = xNj (l.getD i f0) ++ lfs (l.drop (i + 1)) := by
  unfold lfs
  rw [xJc (enc := xNj) (k := 3) (fun _ => rfl), List.drop_eq_getElem_cons h]
  have : l.getD i f0 = l[i] := by simp [List.getD, List.getElem?_eq_getElem h]
  rw [this]
  rfl
theorem xI8 {l : List Lf} {i : Nat} (h : i < l.length) : List.take 3 (List.drop (i * 3) (lfs l)) = [.int .u8 ((l.getD i f0).x : Nat), .int .i64 (l.getD i f0).l, .int .i64 (l.getD i f0).r] := by
  rw [xH0 h]; rfl
theorem xNk {l : List Lf} {i : Nat} (h : i < l.length) : List.take 1 (List.drop (i * 3 + 1) (lfs l)) = [.int .i64 (l.getD i f0).l] := by
  rw [← List.drop_drop, xH0 h]; rfl
theorem xNl {l : List Lf} {i : Nat} (h : i < l.length) : List.take 1 (List.drop (i * 3 + 2) (lfs l)) = [.int .i64 (l.getD i f0).r] := by
  rw [← List.drop_drop, xH0 h]; rfl
theorem xMr {l : List Lf} {i : Nat} (h : i < l.length) : l.drop i = l.getD i f0 :: l.drop (i + 1) := by
  rw [List.drop_eq_getElem_cons h]
  simp [List.getD, List.getElem?_eq_getElem h]
theorem xKK {l : List Lf} {i : Nat} (h : i < l.length) : l.getD i f0 ∈ l := by
  rw [List.getD_eq_getElem?_getD, List.getElem?_eq_getElem h]
  exact List.getElem_mem _

inductive BT
  | nil
  | node (x : Nat) (l r : BT)

inductive Sub (t : List Lf) : Int → Nat → BT → Nat → Prop
  | none (m : Nat) : Sub t (-1) m .nil m
  | some {m k n : Nat} {l r : BT} (hm : m < t.length) (hl : Sub t (t.getD m f0).l (m + 1) l k) (hr : Sub t (t.getD m f0).r k r n) : Sub t (m : Int) m (.node (t.getD m f0).x l r) n

noncomputable abbrev LP (z : Bool) (t : List Lf) (H : xAA) (l r : Int) (s4 : AV) (next j : Int) := L.loop xIm xNZ ⟨xIn (tw z t) s4 (.int .i64 next) (.agg [.int .i64 l, .int .i64 r]) (.int .i64 j), H⟩
abbrev LQ (z : Bool) (t : List Lf) (H : xAA) (l r : Int) (s4 : AV) (next j : Int) : St := ⟨xIn (tw z t) s4 (.int .i64 next) (.agg [.int .i64 l, .int .i64 r]) (.int .i64 j), H⟩

section
variable {z : Bool} {t : List Lf} {H : xAA} {l r : Int} {s4 : AV}
theorem yB7 (next : Int) : LP z t H l r s4 next 2 = some (.exit 0, LQ z t H l r s4 next 2) := by
  unfold LP
  rw [xG6]
  simp (maxSteps := 30000000) (disch := first | assumption | omega | (simp only [List.length_cons, List.length_nil, List.length_append, List.length_set, List.length_replicate, List.length_map, List.length_range, List.length_take, List.length_drop, List.all_cons, List.all_nil, AV.isCell, Bool.and_self, Bool.and_true, xAh, xAb, xAe, xAa, xAC] <;> omega) | rfl | decide) only [xDD, Int.reduceNeg, xAo, xAf, xAc, xAk, xAH, opv, List.getD_cons_succ, List.getD_cons_zero, xAL, Int.lt_irrefl, decide_false, xAl, xAp, List.set_cons_succ, List.set_cons_zero, xAi, xAg, xAj, xAd, xAq, xAn, Bool.false_eq_true, ↓reduceIte, xBy, xBh, xA9, xDE]
theorem yAV (next : Int) {c j : Int} (hj : j = 0 ∧ c = l ∨ j = 1 ∧ c = r) (hc : c = -1) : LP z t H l r s4 next j = LP z t H l r s4 next (j + 1) := by
  unfold LP
  rcases hj with ⟨rfl, rfl⟩ | ⟨rfl, rfl⟩
  · rw [xG6]
    simp (maxSteps := 30000000) (disch := first | assumption | omega | (simp only [List.length_cons, List.length_nil, List.length_append, List.length_set, List.length_replicate, List.length_map, List.length_range, List.length_take, List.length_drop, List.all_cons, List.all_nil, AV.isCell, Bool.and_self, Bool.and_true, xAh, xAb, xAe, xAa, xAC] <;> omega) | rfl | decide) only [xDD, Int.reduceNeg, hc, xAo, xAf, xAc, xAk, xAH, opv, List.getD_cons_succ, List.getD_cons_zero, xAL, Int.reduceLT, decide_true, xAl, xAp, List.set_cons_succ, List.set_cons_zero, xAi, xAg, xAj, xAd, xAq, xAn, ↓reduceIte, xAG, xAs, xDy, xCk, Int.toNat_zero, Nat.mul_one, List.drop_zero, List.take_succ_cons, List.take_zero, xGm, xAE, xBK, xBy, xA0, Nat.reduceEqDiff, xBh, xBq, Int.zero_add, xDf, xAM, xDE]
  · rw [xG6]
    simp (maxSteps := 30000000) (disch := first | assumption | omega | (simp only [List.length_cons, List.length_nil, List.length_append, List.length_set, List.length_replicate, List.length_map, List.length_range, List.length_take, List.length_drop, List.all_cons, List.all_nil, AV.isCell, Bool.and_self, Bool.and_true, xAh, xAb, xAe, xAa, xAC] <;> omega) | rfl | decide) only [xDD, Int.reduceNeg, hc, xAo, xAf, xAc, xAk, xAH, opv, List.getD_cons_succ, List.getD_cons_zero, xAL, Int.reduceLT, decide_true, xAl, xAp, List.set_cons_succ, List.set_cons_zero, xAi, xAg, xAj, xAd, xAq, xAn, ↓reduceIte, xAG, xAs, xDy, xCk, Int.toNat_one, Nat.mul_one, List.drop_succ_cons, List.drop_zero, List.take_succ_cons, List.take_nil, xGm, xAE, xBK, xBy, xA0, Nat.reduceEqDiff, xBh, xBq, Int.reduceAdd, xDf, xAM, xDE]
theorem yDw (next : Nat) {c j : Int} (hj : j = 0 ∧ c = l ∨ j = 1 ∧ c = r) (hc : c ≠ -1) (hb : c ≠ (next : Int) ∨ t.length ≤ next) : LP z t H l r s4 (next : Nat) j = some (.ret, LQ z t H l r (.int .i64 (-1)) (next : Nat) j) := by
  unfold LP
  rcases hj with ⟨rfl, rfl⟩ | ⟨rfl, rfl⟩ <;> rw [xG6] <;> by_cases h1 : c = (next : Int)
  · have h2 : ((t.length : Nat) : Int) ≤ (next : Nat) := by omega
    have h3 : ¬ ((next : Nat) : Int) = -1 := by omega
    simp (maxSteps := 30000000) (disch := first | assumption | omega | (simp only [List.length_cons, List.length_nil, List.length_append, List.length_set, List.length_replicate, List.length_map, List.length_range, List.length_take, List.length_drop, List.all_cons, List.all_nil, AV.isCell, Bool.and_self, Bool.and_true, xAh, xAb, xAe, xAa, xAC] <;> omega) | rfl | decide) only [xDD, Int.reduceNeg, h1, xAo, xAf, xAc, xAk, xAH, opv, List.getD_cons_succ, List.getD_cons_zero, xAL, Int.reduceLT, decide_true, xAl, xAp, List.set_cons_succ, List.set_cons_zero, xAi, xAg, xAj, xAd, xAq, xAn, ↓reduceIte, xAG, xAs, xDy, xCk, Int.toNat_zero, Nat.mul_one, List.drop_zero, List.take_succ_cons, List.take_zero, xGm, xAE, xBK, h3, decide_false, Bool.false_eq_true, xA8, Bool.not_true, xAJ, xAD, xBr, xBf, xCj, h2, xA7, xAK, xAO, xBj, xBa, xCi, xDE]
  · simp (maxSteps := 30000000) (disch := first | assumption | omega | (simp only [List.length_cons, List.length_nil, List.length_append, List.length_set, List.length_replicate, List.length_map, List.length_range, List.length_take, List.length_drop, List.all_cons, List.all_nil, AV.isCell, Bool.and_self, Bool.and_true, xAh, xAb, xAe, xAa, xAC] <;> omega) | rfl | decide) only [xDD, Int.reduceNeg, xAo, xAf, xAc, xAk, xAH, opv, List.getD_cons_succ, List.getD_cons_zero, xAL, Int.reduceLT, decide_true, xAl, xAp, List.set_cons_succ, List.set_cons_zero, xAi, xAg, xAj, xAd, xAq, xAn, ↓reduceIte, xAG, xAs, xDy, xCk, Int.toNat_zero, Nat.mul_one, List.drop_zero, List.take_succ_cons, List.take_zero, xGm, xAE, xBK, hc, decide_false, Bool.false_eq_true, xA8, h1, Bool.not_false, xAJ, xAD, Bool.true_eq_false, xCf, xA7, xAK, xAO, xBj, xBa, xCi, xDE]
  · have h2 : ((t.length : Nat) : Int) ≤ (next : Nat) := by omega
    have h3 : ¬ ((next : Nat) : Int) = -1 := by omega
    simp (maxSteps := 30000000) (disch := first | assumption | omega | (simp only [List.length_cons, List.length_nil, List.length_append, List.length_set, List.length_replicate, List.length_map, List.length_range, List.length_take, List.length_drop, List.all_cons, List.all_nil, AV.isCell, Bool.and_self, Bool.and_true, xAh, xAb, xAe, xAa, xAC] <;> omega) | rfl | decide) only [xDD, Int.reduceNeg, h1, xAo, xAf, xAc, xAk, xAH, opv, List.getD_cons_succ, List.getD_cons_zero, xAL, Int.reduceLT, decide_true, xAl, xAp, List.set_cons_succ, List.set_cons_zero, xAi, xAg, xAj, xAd, xAq, xAn, ↓reduceIte, xAG, xAs, xDy, xCk, Int.toNat_one, Nat.mul_one, List.drop_succ_cons, List.drop_zero, List.take_succ_cons, List.take_nil, xGm, xAE, xBK, h3, decide_false, Bool.false_eq_true, xA8, Bool.not_true, xAJ, xAD, xBr, xBf, xCj, h2, xA7, xAK, xAO, xBj, xBa, xCi, xDE]
  · simp (maxSteps := 30000000) (disch := first | assumption | omega | (simp only [List.length_cons, List.length_nil, List.length_append, List.length_set, List.length_replicate, List.length_map, List.length_range, List.length_take, List.length_drop, List.all_cons, List.all_nil, AV.isCell, Bool.and_self, Bool.and_true, xAh, xAb, xAe, xAa, xAC] <;> omega) | rfl | decide) only [xDD, Int.reduceNeg, xAo, xAf, xAc, xAk, xAH, opv, List.getD_cons_succ, List.getD_cons_zero, xAL, Int.reduceLT, decide_true, xAl, xAp, List.set_cons_succ, List.set_cons_zero, xAi, xAg, xAj, xAd, xAq, xAn, ↓reduceIte, xAG, xAs, xDy, xCk, Int.toNat_one, Nat.mul_one, List.drop_succ_cons, List.drop_zero, List.take_succ_cons, List.take_nil, xGm, xAE, xBK, hc, decide_false, Bool.false_eq_true, xA8, h1, Bool.not_false, xAJ, xAD, Bool.true_eq_false, xCf, xA7, xAK, xAO, xBj, xBa, xCi, xDE]
theorem yDx (next : Nat) {c j : Int} (hj : j = 0 ∧ c = l ∨ j = 1 ∧ c = r) (hb : c = (next : Int)) (hn : next < t.length) (hq : L.pcall 114 [tw z t, .int .i64 (next : Nat)] = some (.int .i64 (-1))) : LP z t H l r s4 (next : Nat) j = some (.ret, LQ z t H l r (.int .i64 (-1)) (-1) j) := by
  have h2 : ¬ ((t.length : Nat) : Int) ≤ (next : Nat) := by omega
  have h3 : ¬ ((next : Nat) : Int) = -1 := by omega
  subst hb
  unfold LP
  rcases hj with ⟨rfl, rfl⟩ | ⟨rfl, rfl⟩ <;> rw [xG6]
  · simp (maxSteps := 30000000) (disch := first | assumption | omega | (simp only [List.length_cons, List.length_nil, List.length_append, List.length_set, List.length_replicate, List.length_map, List.length_range, List.length_take, List.length_drop, List.all_cons, List.all_nil, AV.isCell, Bool.and_self, Bool.and_true, xAh, xAb, xAe, xAa, xAC] <;> omega) | rfl | decide) only [xDD, Int.reduceNeg, xAo, xAf, xAc, xAk, xAH, opv, List.getD_cons_succ, List.getD_cons_zero, xAL, Int.reduceLT, decide_true, xAl, xAp, List.set_cons_succ, List.set_cons_zero, xAi, xAg, xAj, xAd, xAq, xAn, ↓reduceIte, xAG, xAs, xDy, xCk, Int.toNat_zero, Nat.mul_one, List.drop_zero, List.take_succ_cons, List.take_zero, xGm, xAE, xBK, h3, decide_false, Bool.false_eq_true, xA8, Bool.not_true, xAJ, xAD, xBr, xBf, xCj, h2, xA7, xAK, xAu, xBi, List.map_cons, List.map_nil, xAZ, xBI, List.mapM_cons, xBE, xAW, List.mapM_nil, Option.pure_def, Option.bind_eq_bind, Option.bind_some, xAY, hq, xAX, xCZ, xBU, xAO, xBj, xBa, xCi, xDE]
  · simp (maxSteps := 30000000) (disch := first | assumption | omega | (simp only [List.length_cons, List.length_nil, List.length_append, List.length_set, List.length_replicate, List.length_map, List.length_range, List.length_take, List.length_drop, List.all_cons, List.all_nil, AV.isCell, Bool.and_self, Bool.and_true, xAh, xAb, xAe, xAa, xAC] <;> omega) | rfl | decide) only [xDD, Int.reduceNeg, xAo, xAf, xAc, xAk, xAH, opv, List.getD_cons_succ, List.getD_cons_zero, xAL, Int.reduceLT, decide_true, xAl, xAp, List.set_cons_succ, List.set_cons_zero, xAi, xAg, xAj, xAd, xAq, xAn, ↓reduceIte, xAG, xAs, xDy, xCk, Int.toNat_one, Nat.mul_one, List.drop_succ_cons, List.drop_zero, List.take_succ_cons, List.take_nil, xGm, xAE, xBK, h3, decide_false, Bool.false_eq_true, xA8, Bool.not_true, xAJ, xAD, xBr, xBf, xCj, h2, xA7, xAK, xAu, xBi, List.map_cons, List.map_nil, xAZ, xBI, List.mapM_cons, xBE, xAW, List.mapM_nil, Option.pure_def, Option.bind_eq_bind, Option.bind_some, xAY, hq, xAX, xCZ, xBU, xAO, xBj, xBa, xCi, xDE]
theorem yAW (next m : Nat) {c j : Int} (hj : j = 0 ∧ c = l ∨ j = 1 ∧ c = r) (hb : c = (next : Int)) (hn : next < t.length) (hq : L.pcall 114 [tw z t, .int .i64 (next : Nat)] = some (.int .i64 (m : Nat))) : LP z t H l r s4 (next : Nat) j = LP z t H l r s4 (m : Nat) (j + 1) := by
  have h2 : ¬ ((t.length : Nat) : Int) ≤ (next : Nat) := by omega
  have h3 : ¬ ((next : Nat) : Int) = -1 := by omega
  have h4 : ¬ ((m : Nat) : Int) = -1 := by omega
  subst hb
  unfold LP
  rcases hj with ⟨rfl, rfl⟩ | ⟨rfl, rfl⟩ <;> rw [xG6]
  · simp (maxSteps := 30000000) (disch := first | assumption | omega | (simp only [List.length_cons, List.length_nil, List.length_append, List.length_set, List.length_replicate, List.length_map, List.length_range, List.length_take, List.length_drop, List.all_cons, List.all_nil, AV.isCell, Bool.and_self, Bool.and_true, xAh, xAb, xAe, xAa, xAC] <;> omega) | rfl | decide) only [xDD, Int.reduceNeg, xAo, xAf, xAc, xAk, xAH, opv, List.getD_cons_succ, List.getD_cons_zero, xAL, Int.reduceLT, decide_true, xAl, xAp, List.set_cons_succ, List.set_cons_zero, xAi, xAg, xAj, xAd, xAq, xAn, ↓reduceIte, xAG, xAs, xDy, xCk, Int.toNat_zero, Nat.mul_one, List.drop_zero, List.take_succ_cons, List.take_zero, xGm, xAE, xBK, h3, decide_false, Bool.false_eq_true, xA8, Bool.not_true, xAJ, xAD, xBr, xBf, xCj, h2, xA7, xAK, xAu, xBi, List.map_cons, List.map_nil, xAZ, xBI, List.mapM_cons, xBE, xAW, List.mapM_nil, Option.pure_def, Option.bind_eq_bind, Option.bind_some, xAY, hq, xAX, xCZ, xBU, h4, xBq, Int.zero_add, xDf, xAM, xDE]
  · simp (maxSteps := 30000000) (disch := first | assumption | omega | (simp only [List.length_cons, List.length_nil, List.length_append, List.length_set, List.length_replicate, List.length_map, List.length_range, List.length_take, List.length_drop, List.all_cons, List.all_nil, AV.isCell, Bool.and_self, Bool.and_true, xAh, xAb, xAe, xAa, xAC] <;> omega) | rfl | decide) only [xDD, Int.reduceNeg, xAo, xAf, xAc, xAk, xAH, opv, List.getD_cons_succ, List.getD_cons_zero, xAL, Int.reduceLT, decide_true, xAl, xAp, List.set_cons_succ, List.set_cons_zero, xAi, xAg, xAj, xAd, xAq, xAn, ↓reduceIte, xAG, xAs, xDy, xCk, Int.toNat_one, Nat.mul_one, List.drop_succ_cons, List.drop_zero, List.take_succ_cons, List.take_nil, xGm, xAE, xBK, h3, decide_false, Bool.false_eq_true, xA8, Bool.not_true, xAJ, xAD, xBr, xBf, xCj, h2, xA7, xAK, xAu, xBi, List.map_cons, List.map_nil, xAZ, xBI, List.mapM_cons, xBE, xAW, List.mapM_nil, Option.pure_def, Option.bind_eq_bind, Option.bind_some, xAY, hq, xAX, xCZ, xBU, h4, xBq, Int.reduceAdd, xDf, xAM, xDE]
end

theorem xKL {z : Bool} {t : List Lf} {i n : Nat} (ht : t.length < 1099511627776) (hi : i < t.length) (h : LP z t [] (t.getD i f0).l (t.getD i f0).r (.int .i64 0) ((i + 1 : Nat) : Int) 0 = some (.exit 0, LQ z t [] (t.getD i f0).l (t.getD i f0).r (.int .i64 0) (n : Nat) 2)) :
    L.pcall 114 [tw z t, .int .i64 (i : Nat)] = some (.int .i64 (n : Nat)) := by
  unfold LP LQ at h
  rw [xYn, xYg, xAT]
  simp (maxSteps := 30000000) (disch := first | assumption | omega | (simp only [List.length_cons, List.length_nil, List.length_append, List.length_set, List.length_replicate, List.length_map, List.length_range, List.length_take, List.length_drop, List.all_cons, List.all_nil, AV.isCell, Bool.and_self, Bool.and_true, xAh, xAb, xAe, xAa, xAC] <;> omega) | rfl | decide) only [xAI, List.length_cons, List.length_nil, Nat.zero_add, Nat.reduceAdd, Nat.reduceSub, xB8, List.cons_append, List.nil_append, xAo, xAf, xAc, xAk, xAE, opv, xAp, List.set_cons_succ, List.set_cons_zero, xAi, xAg, xAj, xAd, List.getD_cons_succ, List.getD_cons_zero, xAH, xBq, xCE, xDf, xAl, xBT, List.take_succ_cons, List.take_nil, xBg, xBo, xCU, xBB, xBM, xBA, xCC, xA4, xA6, Int.toNat_natCast, xCs, xA1, xES, xB4, xAP, xBu, xNk, xAV, xNl, xN7, xCB, AV.cells, List.all_cons, beq_self_eq_true, List.all_nil, Bool.and_self, ↓reduceIte, List.map_cons, List.map_nil, xCp, Nat.reduceLeDiff, AV.isCell, and_self, xBd, List.take_zero, List.drop_succ_cons, List.drop_zero, Nat.le_refl, List.drop_nil, List.append_nil, Option.map_some, xBp, xBz, xCJ, xBG, xAs, xBe, xDE, h, xA0, xAO, xAx, xAF, xAU, xAr, xAt, xBI, xAW]
theorem xNm {z : Bool} {t : List Lf} {i : Nat} {n j : Int} (ht : t.length < 1099511627776) (hi : i < t.length) (h : LP z t [] (t.getD i f0).l (t.getD i f0).r (.int .i64 0) ((i + 1 : Nat) : Int) 0 = some (.ret, LQ z t [] (t.getD i f0).l (t.getD i f0).r (.int .i64 (-1)) n j)) :
    L.pcall 114 [tw z t, .int .i64 (i : Nat)] = some (.int .i64 (-1)) := by
  unfold LP LQ at h
  rw [xYn, xYg, xAT]
  simp (maxSteps := 30000000) (disch := first | assumption | omega | (simp only [List.length_cons, List.length_nil, List.length_append, List.length_set, List.length_replicate, List.length_map, List.length_range, List.length_take, List.length_drop, List.all_cons, List.all_nil, AV.isCell, Bool.and_self, Bool.and_true, xAh, xAb, xAe, xAa, xAC] <;> omega) | rfl | decide) only [xAI, List.length_cons, List.length_nil, Nat.zero_add, Nat.reduceAdd, Nat.reduceSub, xB8, List.cons_append, List.nil_append, xAo, xAf, xAc, xAk, xAE, opv, xAp, List.set_cons_succ, List.set_cons_zero, xAi, xAg, xAj, xAd, List.getD_cons_succ, List.getD_cons_zero, xAH, xBq, xCE, xDf, xAl, xBT, List.take_succ_cons, List.take_nil, xBg, xBo, xCU, xBB, xBM, xBA, xCC, xA4, xA6, Int.toNat_natCast, xCs, xA1, xES, xB4, xAP, xBu, xNk, xAV, xNl, xN7, xCB, AV.cells, List.all_cons, beq_self_eq_true, List.all_nil, Bool.and_self, ↓reduceIte, List.map_cons, List.map_nil, xCp, Nat.reduceLeDiff, AV.isCell, and_self, xBd, List.take_zero, List.drop_succ_cons, List.drop_zero, Nat.le_refl, List.drop_nil, List.append_nil, Option.map_some, xBp, xBz, xCJ, xBG, xAs, xBe, xDE, h, Int.reduceNeg, xBj, xBa, xAx, xAF, xAU, xAr, xAt, xBI, xAW]

theorem xU4 {z : Bool} {t : List Lf} (ht : t.length < 1099511627776) : ∀ k i, i < t.length → t.length ≤ i + k →
    L.pcall 114 [tw z t, .int .i64 (i : Nat)] = some (.int .i64 (-1)) ∨ ∃ n T, L.pcall 114 [tw z t, .int .i64 (i : Nat)] = some (.int .i64 (n : Nat)) ∧ i < n ∧ n ≤ t.length ∧ Sub t (i : Int) i T n
  | 0, i, hi, hk => by omega
  | k + 1, i, hi, hk => by
    have ih := fun i' (h : i < i') (h2 : i' < t.length) => xU4 (z := z) ht k i' h2 (by omega)
    have first : (∃ n j, LP z t [] (t.getD i f0).l (t.getD i f0).r (.int .i64 0) ((i + 1 : Nat) : Int) 0 = some (.ret, LQ z t [] (t.getD i f0).l (t.getD i f0).r (.int .i64 (-1)) n j)) ∨
        ∃ m T, i < m ∧ m ≤ t.length ∧ Sub t (t.getD i f0).l (i + 1) T m ∧ LP z t [] (t.getD i f0).l (t.getD i f0).r (.int .i64 0) ((i + 1 : Nat) : Int) 0 = LP z t [] (t.getD i f0).l (t.getD i f0).r (.int .i64 0) (m : Nat) 1 := by
      by_cases c1 : (t.getD i f0).l = -1
      · exact .inr ⟨i + 1, .nil, by omega, by omega, c1 ▸ .none _, yAV _ (.inl ⟨rfl, rfl⟩) c1⟩
      · by_cases c2 : (t.getD i f0).l ≠ ((i + 1 : Nat) : Int) ∨ t.length ≤ i + 1
        · exact .inl ⟨_, _, yDw (i + 1) (.inl ⟨rfl, rfl⟩) c1 c2⟩
        · have c3 : (t.getD i f0).l = ((i + 1 : Nat) : Int) := by omega
          rcases ih (i + 1) (by omega) (by omega) with q | ⟨m, T, q, q1, q2, q3⟩
          · exact .inl ⟨_, _, yDx (i + 1) (.inl ⟨rfl, rfl⟩) c3 (by omega) q⟩
          · exact .inr ⟨m, T, by omega, q2, c3 ▸ q3, yAW (i + 1) m (.inl ⟨rfl, rfl⟩) c3 (by omega) q⟩
    rcases first with ⟨n, j, h⟩ | ⟨m, T, m1, m2, hT, h⟩
    · exact .inl (xNm ht hi h)
    · by_cases c1 : (t.getD i f0).r = -1
      · refine .inr ⟨m, .node (t.getD i f0).x T .nil, xKL ht hi (by rw [h, yAV _ (.inr ⟨rfl, rfl⟩) c1]; exact yB7 _), m1, m2, .some hi hT (c1 ▸ .none _)⟩
      · by_cases c2 : (t.getD i f0).r ≠ (m : Int) ∨ t.length ≤ m
        · exact .inl (xNm ht hi (h.trans (yDw m (.inr ⟨rfl, rfl⟩) c1 c2)))
        · have c3 : (t.getD i f0).r = (m : Int) := by omega
          rcases ih m m1 (by omega) with q | ⟨n, T', q, q1, q2, q3⟩
          · exact .inl (xNm ht hi (h.trans (yDx m (.inr ⟨rfl, rfl⟩) c3 (by omega) q)))
          · exact .inr ⟨n, .node (t.getD i f0).x T T', xKL ht hi (by rw [h, yAW m n (.inr ⟨rfl, rfl⟩) c3 (by omega) q]; exact yB7 _), by omega, q2, .some hi hT (c3 ▸ q3)⟩

def xEj (t : List Lf) (T : BT) : Prop := t = [] ∧ T = .nil ∨ t.length ≤ 31 ∧ Sub t 0 0 T t.length

theorem xMs (z : Bool) (t : List Lf) (ht : t.length < 1099511627776) : L.pcall 91 [tw z t] = some (.bool false) ∨ L.pcall 91 [tw z t] = some (.bool true) ∧ ∃ T, xEj t T := by
  have e : (((t.length : Nat) : Int) ≤ 31) = (t.length ≤ 31) := propext ⟨fun h => by omega, fun h => by omega⟩
  by_cases h0 : t.length = 0
  · right
    refine ⟨?_, .nil, .inl ⟨List.length_eq_zero_iff.1 h0, rfl⟩⟩
    have h0' : (((t.length : Nat) : Int) = 0) = True := eq_true (by omega)
    rw [xVw, a91, xAT]
    simp (maxSteps := 30000000) (disch := first | assumption | omega | (simp only [List.length_cons, List.length_nil, List.length_append, List.length_set, List.length_replicate, List.length_map, List.length_range, List.length_take, List.length_drop, List.all_cons, List.all_nil, AV.isCell, Bool.and_self, Bool.and_true, xAh, xAb, xAe, xAa, xAC] <;> omega) | rfl | decide) only [xAI, List.length_cons, List.length_nil, Nat.zero_add, Nat.reduceSub, xB8, List.cons_append, List.nil_append, xAo, xAf, xAc, xAk, xAE, opv, xAp, List.set_cons_succ, List.set_cons_zero, xAi, xAg, xAj, xAd, List.getD_cons_zero, xBr, List.getD_cons_succ, xBf, xAl, xAH, xBK, h0', decide_true, xAJ, xAD, Bool.true_eq_false, ↓reduceIte, xCf, xJN, xA7, xAK, xAO, xAx, xAF, xAU, xAr, xAt, xBI, xB2]
  · have h0' : (((t.length : Nat) : Int) = 0) = False := eq_false (by omega)
    by_cases h1 : t.length ≤ 31
    · rcases xU4 (z := z) ht t.length 0 (by omega) (by omega) with q | ⟨n, T, q, q1, q2, q3⟩
      · left
        simp only [Int.natCast_zero] at q
        have h2 : ((-1 : Int) = (t.length : Nat)) = False := eq_false (by omega)
        rw [xVw, a91, xAT]
        simp (maxSteps := 30000000) (disch := first | assumption | omega | (simp only [List.length_cons, List.length_nil, List.length_append, List.length_set, List.length_replicate, List.length_map, List.length_range, List.length_take, List.length_drop, List.all_cons, List.all_nil, AV.isCell, Bool.and_self, Bool.and_true, xAh, xAb, xAe, xAa, xAC] <;> omega) | rfl | decide) only [xAI, List.length_cons, List.length_nil, Nat.zero_add, Nat.reduceSub, xB8, List.cons_append, List.nil_append, xAo, xAf, xAc, xAk, xAE, opv, xAp, List.set_cons_succ, List.set_cons_zero, xAi, xAg, xAj, xAd, List.getD_cons_zero, xBr, List.getD_cons_succ, xBf, xAl, xAH, xBK, h0', decide_false, xAJ, xAD, ↓reduceIte, xDR, e, h1, decide_true, xBi, List.map_cons, List.map_nil, xAZ, xBI, List.mapM_cons, xBE, xAW, List.mapM_nil, Option.pure_def, Option.bind_eq_bind, Option.bind_some, xAY, q, Int.reduceNeg, xAX, xCZ, xBU, h2, xA7, xAK, Bool.false_eq_true, xAO, xAx, xAF, xAU, xAr, xAt, xB2]
      · simp only [Int.natCast_zero] at q
        by_cases c : n = t.length
        · right
          refine ⟨?_, T, .inr ⟨h1, c ▸ q3⟩⟩
          have h2 : (((n : Nat) : Int) = (t.length : Nat)) = True := eq_true (by omega)
          rw [xVw, a91, xAT]
          simp (maxSteps := 30000000) (disch := first | assumption | omega | (simp only [List.length_cons, List.length_nil, List.length_append, List.length_set, List.length_replicate, List.length_map, List.length_range, List.length_take, List.length_drop, List.all_cons, List.all_nil, AV.isCell, Bool.and_self, Bool.and_true, xAh, xAb, xAe, xAa, xAC] <;> omega) | rfl | decide) only [xAI, List.length_cons, List.length_nil, Nat.zero_add, Nat.reduceSub, xB8, List.cons_append, List.nil_append, xAo, xAf, xAc, xAk, xAE, opv, xAp, List.set_cons_succ, List.set_cons_zero, xAi, xAg, xAj, xAd, List.getD_cons_zero, xBr, List.getD_cons_succ, xBf, xAl, xAH, xBK, h0', decide_false, xAJ, xAD, ↓reduceIte, xDR, e, h1, decide_true, xBi, List.map_cons, List.map_nil, xAZ, xBI, List.mapM_cons, xBE, xAW, List.mapM_nil, Option.pure_def, Option.bind_eq_bind, Option.bind_some, xAY, q, xAX, xCZ, xBU, h2, xA7, xAK, Bool.false_eq_true, xAO, xAx, xAF, xAU, xAr, xAt, xB2]
        · left
          have h2 : (((n : Nat) : Int) = (t.length : Nat)) = False := eq_false (by omega)
          rw [xVw, a91, xAT]
          simp (maxSteps := 30000000) (disch := first | assumption | omega | (simp only [List.length_cons, List.length_nil, List.length_append, List.length_set, List.length_replicate, List.length_map, List.length_range, List.length_take, List.length_drop, List.all_cons, List.all_nil, AV.isCell, Bool.and_self, Bool.and_true, xAh, xAb, xAe, xAa, xAC] <;> omega) | rfl | decide) only [xAI, List.length_cons, List.length_nil, Nat.zero_add, Nat.reduceSub, xB8, List.cons_append, List.nil_append, xAo, xAf, xAc, xAk, xAE, opv, xAp, List.set_cons_succ, List.set_cons_zero, xAi, xAg, xAj, xAd, List.getD_cons_zero, xBr, List.getD_cons_succ, xBf, xAl, xAH, xBK, h0', decide_false, xAJ, xAD, ↓reduceIte, xDR, e, h1, decide_true, xBi, List.map_cons, List.map_nil, xAZ, xBI, List.mapM_cons, xBE, xAW, List.mapM_nil, Option.pure_def, Option.bind_eq_bind, Option.bind_some, xAY, q, xAX, xCZ, xBU, h2, xA7, xAK, Bool.false_eq_true, xAO, xAx, xAF, xAU, xAr, xAt, xB2]
    · left
      rw [xVw, a91, xAT]
      simp (maxSteps := 30000000) (disch := first | assumption | omega | (simp only [List.length_cons, List.length_nil, List.length_append, List.length_set, List.length_replicate, List.length_map, List.length_range, List.length_take, List.length_drop, List.all_cons, List.all_nil, AV.isCell, Bool.and_self, Bool.and_true, xAh, xAb, xAe, xAa, xAC] <;> omega) | rfl | decide) only [xAI, List.length_cons, List.length_nil, Nat.zero_add, Nat.reduceSub, xB8, List.cons_append, List.nil_append, xAo, xAf, xAc, xAk, xAE, opv, xAp, List.set_cons_succ, List.set_cons_zero, xAi, xAg, xAj, xAd, List.getD_cons_zero, xBr, List.getD_cons_succ, xBf, xAl, xAH, xBK, h0', decide_false, xAJ, xAD, ↓reduceIte, xDR, e, h1, Bool.false_eq_true, xCf, xA7, xAK, xAO, xAx, xAF, xAU, xAr, xAt, xBI, xB2]
theorem xTE (x : Nat) {v b : Nat} (h : v ≤ b) : Int.fdiv (x : Int) (2 ^ min v b) = ((x >>> v : Nat) : Int) := by
  rw [Nat.min_eq_left h, Nat.shiftRight_eq_div_pow, show (2 : Int) ^ v = ((2 ^ v : Nat) : Int) from by rw [Int.natCast_pow]; rfl, Int.fdiv_eq_ediv_of_nonneg _ (Int.natCast_nonneg _)]
  rfl

theorem xKM {z : Bool} {t : List Lf} {v : Nat} {s4 : AV} (hv : v ≤ 3) (hl : t.length < 1099511627776) (hx : ∀ e ∈ t, e.x < 256) : ∀ d i H, i + d = t.length →
    ∃ (H' : xAA) (i' : AV), (∀ e ∈ t.drop i, e.x >>> v = 0) ∧ L.loop xJM xQc ⟨xIh (tw z t) (.int .i64 (v : Nat)) s4 (tw z t) (.int .i64 (t.length : Nat)) (.int .i64 (i : Nat)), H⟩ = some (.exit 1, ⟨xIh (tw z t) (.int .i64 (v : Nat)) s4 (tw z t) (.int .i64 (t.length : Nat)) (.int .i64 (t.length : Nat)), H'⟩)
      ∨ (¬ ∀ e ∈ t.drop i, e.x >>> v = 0) ∧ L.loop xJM xQc ⟨xIh (tw z t) (.int .i64 (v : Nat)) s4 (tw z t) (.int .i64 (t.length : Nat)) (.int .i64 (i : Nat)), H⟩ = some (.ret, ⟨xIh (tw z t) (.int .i64 (v : Nat)) (.int .i64 1) (tw z t) (.int .i64 (t.length : Nat)) i', H'⟩)
  | 0, i, H, h => by
    obtain rfl : i = t.length := by omega
    refine ⟨H, .any, .inl ⟨by rw [List.drop_length]; simp, ?_⟩⟩
    rw [xNX]
    simp (maxSteps := 30000000) (disch := first | assumption | omega | (simp only [List.length_cons, List.length_nil, List.length_append, List.length_set, List.length_replicate, List.length_map, List.length_range, List.length_take, List.length_drop, List.all_cons, List.all_nil, AV.isCell, Bool.and_self, Bool.and_true, xAh, xAb, xAe, xAa, xAC] <;> omega) | rfl | decide) only [xJL, xAo, xAf, xAc, xAk, xAH, opv, List.getD_cons_succ, List.getD_cons_zero, xAL, Int.lt_irrefl, decide_false, xAl, xAp, List.set_cons_succ, List.set_cons_zero, xAi, xAg, xAj, xAd, xAq, xAn, Bool.false_eq_true, ↓reduceIte, xBy, xBh, xA9, xF9]
  | d + 1, i, H, h => by
    have hlt : (i : Int) < (t.length : Nat) := by omega
    have hm := hx _ (xKK (by omega : i < t.length))
    have hs := xTE (t.getD i f0).x (show v ≤ IntKind.i64.bits from by show v ≤ 64; omega)
    rw [xMr (by omega : i < t.length)]
    by_cases c : (t.getD i f0).x >>> v = 0
    · have c' : ((((t.getD i f0).x >>> v : Nat) : Int) = 0) = True := eq_true (by omega)
      obtain ⟨H', i', ih⟩ := xKM (z := z) (s4 := s4) hv hl hx d (i + 1) (H ++ [.cells false false (xNj (t.getD i f0))]) (by omega)
      simp only [xNj] at ih
      refine ⟨H', i', ih.imp (fun q => ⟨?_, ?_⟩) (fun q => ⟨?_, ?_⟩)⟩
      · intro e he
        rcases List.mem_cons.1 he with rfl | he
        · exact c
        · exact q.1 e he
      · have q := q.2
        rw [xNX]
        simp (maxSteps := 30000000) (disch := first | assumption | omega | (simp only [List.length_cons, List.length_nil, List.length_append, List.length_set, List.length_replicate, List.length_map, List.length_range, List.length_take, List.length_drop, List.all_cons, List.all_nil, AV.isCell, Bool.and_self, Bool.and_true, xAh, xAb, xAe, xAa, xAC] <;> omega) | rfl | decide) only [xJL, xAo, xAf, xAc, xAk, xAH, opv, List.getD_cons_succ, List.getD_cons_zero, xAL, hlt, decide_true, xAl, xAp, List.set_cons_succ, List.set_cons_zero, xAi, xAg, xAj, xAd, xAq, xAn, ↓reduceIte, xAG, xAs, xA4, xA6, Int.toNat_natCast, xAP, xBu, xI8, xBs, xBn, AV.cells, List.all_cons, AV.isCell, List.all_nil, Bool.and_self, xBb, List.length_cons, List.length_nil, Nat.zero_add, Nat.reduceAdd, xBH, xCY, List.getElem?_cons_zero, xA3, xBd, List.take_zero, List.nil_append, List.drop_succ_cons, List.drop_nil, List.append_nil, xDr, xAR, xBl, xA1, xAQ, Nat.add_zero, xA5, xAz, List.drop_zero, List.take_succ_cons, xAV, xEb, xC1, xDf, xAE, xCQ, hs, xA8, c', Bool.not_true, Bool.false_eq_true, xAu, xBq, xCE, xAM, xF9, q]
      · intro f
        exact q.1 (fun e he => f e (List.mem_cons_of_mem _ he))
      · have q := q.2
        rw [xNX]
        simp (maxSteps := 30000000) (disch := first | assumption | omega | (simp only [List.length_cons, List.length_nil, List.length_append, List.length_set, List.length_replicate, List.length_map, List.length_range, List.length_take, List.length_drop, List.all_cons, List.all_nil, AV.isCell, Bool.and_self, Bool.and_true, xAh, xAb, xAe, xAa, xAC] <;> omega) | rfl | decide) only [xJL, xAo, xAf, xAc, xAk, xAH, opv, List.getD_cons_succ, List.getD_cons_zero, xAL, hlt, decide_true, xAl, xAp, List.set_cons_succ, List.set_cons_zero, xAi, xAg, xAj, xAd, xAq, xAn, ↓reduceIte, xAG, xAs, xA4, xA6, Int.toNat_natCast, xAP, xBu, xI8, xBs, xBn, AV.cells, List.all_cons, AV.isCell, List.all_nil, Bool.and_self, xBb, List.length_cons, List.length_nil, Nat.zero_add, Nat.reduceAdd, xBH, xCY, List.getElem?_cons_zero, xA3, xBd, List.take_zero, List.nil_append, List.drop_succ_cons, List.drop_nil, List.append_nil, xDr, xAR, xBl, xA1, xAQ, Nat.add_zero, xA5, xAz, List.drop_zero, List.take_succ_cons, xAV, xEb, xC1, xDf, xAE, xCQ, hs, xA8, c', Bool.not_true, Bool.false_eq_true, xAu, xBq, xCE, xAM, xF9, q]
    · have c' : ((((t.getD i f0).x >>> v : Nat) : Int) = 0) = False := eq_false (by omega)
      refine ⟨H ++ [.cells false false (xNj (t.getD i f0))], .int .i64 (i : Nat), .inr ⟨fun f => c (f _ (List.mem_cons_self ..)), ?_⟩⟩
      rw [xNX]
      simp (maxSteps := 30000000) (disch := first | assumption | omega | (simp only [List.length_cons, List.length_nil, List.length_append, List.length_set, List.length_replicate, List.length_map, List.length_range, List.length_take, List.length_drop, List.all_cons, List.all_nil, AV.isCell, Bool.and_self, Bool.and_true, xAh, xAb, xAe, xAa, xAC] <;> omega) | rfl | decide) only [xJL, xAo, xAf, xAc, xAk, xAH, opv, List.getD_cons_succ, List.getD_cons_zero, xAL, hlt, decide_true, xAl, xAp, List.set_cons_succ, List.set_cons_zero, xAi, xAg, xAj, xAd, xAq, xAn, ↓reduceIte, xAG, xAs, xA4, xA6, Int.toNat_natCast, xAP, xBu, xI8, xBs, xBn, AV.cells, List.all_cons, AV.isCell, List.all_nil, Bool.and_self, xBb, List.length_cons, List.length_nil, Nat.zero_add, Nat.reduceAdd, xBH, xCY, List.getElem?_cons_zero, xA3, xBd, List.take_zero, List.nil_append, List.drop_succ_cons, List.drop_nil, List.append_nil, xDr, xAR, xBl, xA1, xAQ, Nat.add_zero, xA5, xAz, List.drop_zero, List.take_succ_cons, xAV, xEb, xC1, xDf, xAE, xCQ, hs, xA8, c', decide_false, Bool.not_false, xAO, xBj, xBa, xCi, xF9, xNj]

theorem xI9 {t : List Lf} {c : Int} {m n : Nat} {T : BT} (h : Sub t c m T n) : (c = -1 ∧ n = m ∧ T = .nil) ∨ (c = (m : Int) ∧ m < t.length) := by
  cases h with
  | none m => exact .inl ⟨rfl, rfl, rfl⟩
  | some hm _ _ => exact .inr ⟨rfl, hm⟩

theorem xZD {z : Bool} {t : List Lf} (ht : t.length < 1099511627776) {c : Int} {m n : Nat} {T : BT} (h : Sub t c m T n) : 0 ≤ c → L.pcall 114 [tw z t, .int .i64 (m : Nat)] = some (.int .i64 (n : Nat)) := by
  induction h with
  | none m => intro h; omega
  | @some m k n l r hm hl hr ihl ihr =>
    intro _
    have first : LP z t [] (t.getD m f0).l (t.getD m f0).r (.int .i64 0) ((m + 1 : Nat) : Int) 0 = LP z t [] (t.getD m f0).l (t.getD m f0).r (.int .i64 0) ((k : Nat) : Int) 1 := by
      rcases xI9 hl with ⟨e1, e2, _⟩ | ⟨e1, e2⟩
      · subst e2
        exact yAV _ (.inl ⟨rfl, rfl⟩) e1
      · exact yAW (m + 1) k (.inl ⟨rfl, rfl⟩) e1 e2 (ihl (by omega))
    have second : LP z t [] (t.getD m f0).l (t.getD m f0).r (.int .i64 0) ((k : Nat) : Int) 1 = LP z t [] (t.getD m f0).l (t.getD m f0).r (.int .i64 0) ((n : Nat) : Int) 2 := by
      rcases xI9 hr with ⟨e1, e2, _⟩ | ⟨e1, e2⟩
      · subst e2
        exact yAV _ (.inr ⟨rfl, rfl⟩) e1
      · exact yAW k n (.inr ⟨rfl, rfl⟩) e1 e2 (ihr (by omega))
    exact xKL ht hm (by rw [first, second]; exact yB7 _)

open Classical in
noncomputable def xGv (t : List Lf) : Bool := decide (∃ T, xEj t T)
open Classical in
theorem formedB_iff {t : List Lf} : xGv t = true ↔ ∃ T, xEj t T := by unfold xGv; rw [decide_eq_true_eq]

theorem xPn (z : Bool) {t : List Lf} {T : BT} (ht : t.length < 1099511627776) (h : xEj t T) : L.pcall 91 [tw z t] = some (.bool true) := by
  have e : (((t.length : Nat) : Int) ≤ 31) = (t.length ≤ 31) := propext ⟨fun h => by omega, fun h => by omega⟩
  rcases h with ⟨rfl, rfl⟩ | ⟨h31, hS⟩
  · have h0' : (((([] : List Lf).length : Nat) : Int) = 0) = True := eq_true (by simp)
    rw [xVw, a91, xAT]
    simp (maxSteps := 30000000) (disch := first | assumption | omega | (simp only [List.length_cons, List.length_nil, List.length_append, List.length_set, List.length_replicate, List.length_map, List.length_range, List.length_take, List.length_drop, List.all_cons, List.all_nil, AV.isCell, Bool.and_self, Bool.and_true, xAh, xAb, xAe, xAa, xAC] <;> omega) | rfl | decide) only [xAI, List.length_cons, List.length_nil, Nat.zero_add, Nat.reduceSub, xB8, List.cons_append, List.nil_append, xAo, xAf, xAc, xAk, xAE, opv, xAp, List.set_cons_succ, List.set_cons_zero, xAi, xAg, xAj, xAd, List.getD_cons_zero, xBr, List.getD_cons_succ, xBf, xDg, xAl, xAH, xBK, decide_true, xAJ, xAD, Bool.true_eq_false, ↓reduceIte, xCf, xJN, xA7, xAK, xAO, xAx, xAF, xAU, xAr, xAt, xBI, xB2]
  · have q := xZD (z := z) ht hS (by omega)
    have hpos : ¬ t.length = 0 := by
      intro h0
      rcases xI9 hS with ⟨h, _⟩ | ⟨_, h⟩ <;> omega
    have h0' : (((t.length : Nat) : Int) = 0) = False := eq_false (by omega)
    have h2 : (((t.length : Nat) : Int) = (t.length : Nat)) = True := eq_true rfl
    simp only [Int.natCast_zero] at q
    rw [xVw, a91, xAT]
    simp (maxSteps := 30000000) (disch := first | assumption | omega | (simp only [List.length_cons, List.length_nil, List.length_append, List.length_set, List.length_replicate, List.length_map, List.length_range, List.length_take, List.length_drop, List.all_cons, List.all_nil, AV.isCell, Bool.and_self, Bool.and_true, xAh, xAb, xAe, xAa, xAC] <;> omega) | rfl | decide) only [xAI, List.length_cons, List.length_nil, Nat.zero_add, Nat.reduceSub, xB8, List.cons_append, List.nil_append, xAo, xAf, xAc, xAk, xAE, opv, xAp, List.set_cons_succ, List.set_cons_zero, xAi, xAg, xAj, xAd, List.getD_cons_zero, xBr, List.getD_cons_succ, xBf, xAl, xAH, xBK, h0', decide_false, xAJ, xAD, ↓reduceIte, xDR, e, h31, decide_true, xBi, List.map_cons, List.map_nil, xAZ, xBI, List.mapM_cons, xBE, xAW, List.mapM_nil, Option.pure_def, Option.bind_eq_bind, Option.bind_some, xAY, q, xAX, xCZ, xBU, xA7, xAK, Bool.false_eq_true, xAO, xAx, xAF, xAU, xAr, xAt, xB2]

theorem xRz (z : Bool) (t : List Lf) (ht : t.length < 1099511627776) : L.pcall 91 [tw z t] = some (.bool (xGv t)) := by
  cases h : xGv t with
  | true =>
    obtain ⟨T, hT⟩ := formedB_iff.1 h
    exact xPn z ht hT
  | false =>
    rcases xMs z t ht with q | ⟨_, q⟩
    · exact q
    · rw [formedB_iff.2 q] at h; cases h

def xTF (t : List Lf) (v : Nat) : Bool := t.all fun e => decide (e.x >>> v = 0)
theorem labOk_iff {t : List Lf} {v : Nat} : xTF t v = true ↔ ∀ e ∈ t, e.x >>> v = 0 := by simp [xTF]
noncomputable def xE4 (t : List Lf) (v : Nat) : Int := if 31 < t.length then 4 else if xTF t v = true then (if xGv t = true then 0 else 2) else 1

theorem xMt (z : Bool) (t : List Lf) (v : Nat) (hv : v ≤ 3) (hl : t.length < 1099511627776) (hx : ∀ e ∈ t, e.x < 256) :
    L.pcall 99 [tw z t, .int .i64 (v : Nat)] = some (.int .i64 (xE4 t v)) := by
  have hv3 : ¬ ((3 : Int) < (v : Nat)) := by omega
  have e31 : ((31 : Int) < (t.length : Nat)) = (31 < t.length) := propext ⟨fun h => by omega, fun h => by omega⟩
  have q := xRz z t hl
  unfold xE4
  by_cases c : 31 < t.length
  · rw [if_pos c, xUB, a99, xAT]
    simp (maxSteps := 30000000) (disch := first | assumption | omega | (simp only [List.length_cons, List.length_nil, List.length_append, List.length_set, List.length_replicate, List.length_map, List.length_range, List.length_take, List.length_drop, List.all_cons, List.all_nil, AV.isCell, Bool.and_self, Bool.and_true, xAh, xAb, xAe, xAa, xAC] <;> omega) | rfl | decide) only [xAI, List.length_cons, List.length_nil, Nat.zero_add, Nat.reduceAdd, Nat.reduceSub, xB8, List.cons_append, List.nil_append, xAo, xAf, xAc, xAk, xAE, opv, xAp, List.set_cons_succ, List.set_cons_zero, xAi, xAg, xAj, xAd, xAs, List.getD_cons_succ, List.getD_cons_zero, xAH, xAL, xQd, decide_false, xAl, xAJ, xAD, ↓reduceIte, xBP, hv3, xA7, xAK, Bool.false_eq_true, xAq, xAn, xBr, xBf, e31, c, decide_true, xAO, xBj, xBa, xAx, xAF, xAU, xAr, xAt, xBI, xAW]
  · rw [if_neg c]
    obtain ⟨H', i', g⟩ := xKM (z := z) (s4 := .int .i64 0) hv hl hx t.length 0 [] (by omega)
    simp only [Int.natCast_zero, List.drop_zero] at g
    rcases g with ⟨g1, g⟩ | ⟨g1, g⟩
    · rw [if_pos (labOk_iff.2 g1)]
      cases hf : xGv t with
      | false =>
        rw [hf] at q
        rw [if_neg (by simp), xUB, a99, xAT]
        simp (maxSteps := 30000000) (disch := first | assumption | omega | (simp only [List.length_cons, List.length_nil, List.length_append, List.length_set, List.length_replicate, List.length_map, List.length_range, List.length_take, List.length_drop, List.all_cons, List.all_nil, AV.isCell, Bool.and_self, Bool.and_true, xAh, xAb, xAe, xAa, xAC] <;> omega) | rfl | decide) only [xAI, List.length_cons, List.length_nil, Nat.zero_add, Nat.reduceAdd, Nat.reduceSub, xB8, List.cons_append, List.nil_append, xAo, xAf, xAc, xAk, xAE, opv, xAp, List.set_cons_succ, List.set_cons_zero, xAi, xAg, xAj, xAd, xAs, List.getD_cons_succ, List.getD_cons_zero, xAH, xAL, xQd, decide_false, xAl, xAJ, xAD, ↓reduceIte, xBP, hv3, xA7, xAK, Bool.false_eq_true, xAq, xAn, xBr, xBf, e31, c, xAG, xAu, xBe, xF9, g, xA0, xBi, List.map_cons, List.map_nil, xAZ, xBI, List.mapM_cons, xBE, List.mapM_nil, Option.pure_def, Option.bind_eq_bind, Option.bind_some, xAY, q, xAX, xCZ, xBU, xGl, xEa, Bool.not_false, xAO, xBa, xAx, xAF, xAU, xAr, xAt, xAW]
      | true =>
        rw [hf] at q
        rw [if_pos rfl, xUB, a99, xAT]
        simp (maxSteps := 30000000) (disch := first | assumption | omega | (simp only [List.length_cons, List.length_nil, List.length_append, List.length_set, List.length_replicate, List.length_map, List.length_range, List.length_take, List.length_drop, List.all_cons, List.all_nil, AV.isCell, Bool.and_self, Bool.and_true, xAh, xAb, xAe, xAa, xAC] <;> omega) | rfl | decide) only [xAI, List.length_cons, List.length_nil, Nat.zero_add, Nat.reduceAdd, Nat.reduceSub, xB8, List.cons_append, List.nil_append, xAo, xAf, xAc, xAk, xAE, opv, xAp, List.set_cons_succ, List.set_cons_zero, xAi, xAg, xAj, xAd, xAs, List.getD_cons_succ, List.getD_cons_zero, xAH, xAL, xQd, decide_false, xAl, xAJ, xAD, ↓reduceIte, xBP, hv3, xA7, xAK, Bool.false_eq_true, xAq, xAn, xBr, xBf, e31, c, xAG, xAu, xBe, xF9, g, xA0, xBi, List.map_cons, List.map_nil, xAZ, xBI, List.mapM_cons, xBE, List.mapM_nil, Option.pure_def, Option.bind_eq_bind, Option.bind_some, xAY, q, xAX, xCZ, xBU, xGl, xEa, Bool.not_true, xAO, xAx, xAF, xAU, xAr, xAt, xAW]
    · rw [if_neg (fun h => g1 (labOk_iff.1 h)), xUB, a99, xAT]
      simp (maxSteps := 30000000) (disch := first | assumption | omega | (simp only [List.length_cons, List.length_nil, List.length_append, List.length_set, List.length_replicate, List.length_map, List.length_range, List.length_take, List.length_drop, List.all_cons, List.all_nil, AV.isCell, Bool.and_self, Bool.and_true, xAh, xAb, xAe, xAa, xAC] <;> omega) | rfl | decide) only [xAI, List.length_cons, List.length_nil, Nat.zero_add, Nat.reduceAdd, Nat.reduceSub, xB8, List.cons_append, List.nil_append, xAo, xAf, xAc, xAk, xAE, opv, xAp, List.set_cons_succ, List.set_cons_zero, xAi, xAg, xAj, xAd, xAs, List.getD_cons_succ, List.getD_cons_zero, xAH, xAL, xQd, decide_false, xAl, xAJ, xAD, ↓reduceIte, xBP, hv3, xA7, xAK, Bool.false_eq_true, xAq, xAn, xBr, xBf, e31, c, xAG, xAu, xBe, xF9, g, xBj, xBa, xAx, xAF, xAU, xAr, xAt, xBI, xAW]

end Go.Abs.Det

/- Trees as lists of nodes. -/
namespace Go.Abs.Det
open Go Go.Abs
set_option linter.unusedSimpArgs false
set_option linter.unusedVariables false

def BT.size : BT → Nat
  | .nil => 0
  | .node _ l r => 1 + (l.size + r.size)
def xDo (m : Nat) : BT → Int
  | .nil => -1
  | .node _ _ _ => (m : Nat)
def xDp (m : Nat) : BT → List Lf
  | .nil => []
  | .node x l r => ⟨x, xDo (m + 1) l, xDo (m + 1 + l.size) r⟩ :: (xDp (m + 1) l ++ xDp (m + 1 + l.size) r)
theorem xCg : ∀ (T : BT) (m : Nat), (xDp m T).length = T.size
  | .nil, m => rfl
  | .node x l r, m => by
    rw [xDp, List.length_cons, List.length_append, xCg l, xCg r, BT.size]; omega

theorem xW2 {t : List Lf} {c : Int} {m n : Nat} {T : BT} (h : Sub t c m T n) : c = xDo m T ∧ n = m + T.size ∧ (t.drop m).take T.size = xDp m T := by
  induction h with
  | none m => exact ⟨rfl, rfl, by simp [BT.size, xDp]⟩
  | @some m k n l r hm hl hr ihl ihr =>
    obtain ⟨l1, rfl, l3⟩ := ihl
    obtain ⟨r1, rfl, r3⟩ := ihr
    refine ⟨rfl, by rw [BT.size]; omega, ?_⟩
    rw [xMr hm, BT.size, show 1 + (l.size + r.size) = (l.size + r.size) + 1 by omega, List.take_succ_cons, List.take_add, List.drop_drop, l3, r3, xDp, ← l1, ← r1]

theorem xPo {t : List Lf} {T : BT} (h : xEj t T) : t = xDp 0 T ∧ T.size ≤ 31 := by
  rcases h with ⟨rfl, rfl⟩ | ⟨h1, h2⟩
  · exact ⟨rfl, by simp [BT.size]⟩
  · obtain ⟨-, e, h3⟩ := xW2 h2
    rw [List.drop_zero, List.take_of_length_le (by omega)] at h3
    exact ⟨h3, by omega⟩

theorem xNn : ∀ (T : BT) (A B : List Lf), Sub (A ++ xDp A.length T ++ B) (xDo A.length T) A.length T (A.length + T.size)
  | .nil, A, B => .none _
  | .node x l r, A, B => by
    have hl := xNn l (A ++ [⟨x, xDo (A.length + 1) l, xDo (A.length + 1 + l.size) r⟩]) (xDp (A.length + 1 + l.size) r ++ B)
    have hr := xNn r (A ++ ⟨x, xDo (A.length + 1) l, xDo (A.length + 1 + l.size) r⟩ :: xDp (A.length + 1) l) B
    have e1 : (A ++ [(⟨x, xDo (A.length + 1) l, xDo (A.length + 1 + l.size) r⟩ : Lf)]).length = A.length + 1 := by simp
    have e2 : (A ++ (⟨x, xDo (A.length + 1) l, xDo (A.length + 1 + l.size) r⟩ : Lf) :: xDp (A.length + 1) l).length = A.length + 1 + l.size := by
      rw [List.length_append, List.length_cons, xCg]; omega
    rw [e1] at hl
    rw [e2] at hr
    have el : A ++ xDp A.length (.node x l r) ++ B = A ++ [⟨x, xDo (A.length + 1) l, xDo (A.length + 1 + l.size) r⟩] ++ xDp (A.length + 1) l ++ (xDp (A.length + 1 + l.size) r ++ B) := by
      simp [xDp]
    have er : A ++ xDp A.length (.node x l r) ++ B = A ++ ⟨x, xDo (A.length + 1) l, xDo (A.length + 1 + l.size) r⟩ :: xDp (A.length + 1) l ++ xDp (A.length + 1 + l.size) r ++ B := by
      simp [xDp]
    rw [← el] at hl
    rw [← er] at hr
    have hg : (A ++ xDp A.length (.node x l r) ++ B).getD A.length f0 = ⟨x, xDo (A.length + 1) l, xDo (A.length + 1 + l.size) r⟩ := by
      simp [xDp, List.getD]
    have hm : A.length < (A ++ xDp A.length (.node x l r) ++ B).length := by
      simp [xDp]
    have := Sub.some (t := A ++ xDp A.length (.node x l r) ++ B) hm (by rw [hg]; exact hl) (by rw [hg]; exact hr)
    rw [hg] at this
    rw [BT.size, show A.length + (1 + (l.size + r.size)) = A.length + 1 + l.size + r.size by omega]
    exact this

theorem xKb {T : BT} (h : T.size ≤ 31) : xEj (xDp 0 T) T := by
  cases T with
  | nil => exact .inl ⟨rfl, rfl⟩
  | node x l r =>
    have := xNn (.node x l r) [] []
    rw [List.append_nil, List.nil_append] at this
    exact .inr ⟨by rw [xCg]; exact h, by rw [xCg]; simpa [xDo] using this⟩

def BT.labs (p : Nat → Prop) : BT → Prop
  | .nil => True
  | .node x l r => p x ∧ l.labs p ∧ r.labs p
theorem xE5 {p : Nat → Prop} : ∀ (T : BT) (m : Nat), (∀ e ∈ xDp m T, p e.x) ↔ T.labs p
  | .nil, m => by simp [xDp, BT.labs]
  | .node x l r, m => by
    have hl := xE5 (p := p) l (m + 1)
    have hr := xE5 (p := p) r (m + 1 + l.size)
    rw [BT.labs, ← hl, ← hr, xDp]
    simp only [List.mem_cons, List.mem_append]
    constructor
    · intro h
      exact ⟨h _ (.inl rfl), fun e he => h e (.inr (.inl he)), fun e he => h e (.inr (.inr he))⟩
    · rintro ⟨h1, h2, h3⟩ e (rfl | he | he)
      · exact h1
      · exact h2 e he
      · exact h3 e he
end Go.Abs.Det

/- CopyTree. -/
namespace Go.Abs.Det
open Go Go.Abs
set_option linter.unusedSimpArgs false
set_option linter.unusedVariables false

theorem xW3 (d : Nat) (H : xAA) (l : List Lf) : (lfs l).mapM (frz d H) = some (lfs l) := by
  induction l with
  | nil => rfl
  | cons e l ih =>
    have : lfs (e :: l) = .int .u8 (e.x : Nat) :: .int .i64 e.l :: .int .i64 e.r :: lfs l := rfl
    rw [this]
    simp only [List.mapM_cons, xAW, ih]
    rfl
theorem xZE (z : Bool) (l : List Lf) (hl : l.length < 1099511627776) : L.pcall 13 [tw z l] = some (tw (l.length == 0) l) := by
  have htk : List.take (l.length * 3) (lfs l) = lfs l := List.take_of_length_le (by rw [xAC]; omega)
  rw [yDD, a13, xAT]
  simp (maxSteps := 30000000) (disch := first | assumption | omega | (simp only [List.length_cons, List.length_nil, List.length_append, List.length_set, List.length_replicate, List.length_map, List.length_range, List.length_take, List.length_drop, List.all_cons, List.all_nil, AV.isCell, Bool.and_self, Bool.and_true, xAh, xAb, xAe, xAa, xAC] <;> omega) | rfl | decide) only [xAI, List.length_cons, List.length_nil, Nat.zero_add, Nat.reduceSub, xB8, List.cons_append, List.nil_append, xAo, xAf, xAc, xAk, xAE, opv, xAp, List.set_cons_succ, List.set_cons_zero, xAi, xAg, xAj, xAd, List.getD_cons_zero, xB1, List.getD_cons_succ, xDx, xDw, xCO, xAO, xAx, xAF, xAU, xAr, xAt, xBI, xFn, List.getElem?_cons_zero, xDj, List.drop_zero, htk, xW3, xB5]
end Go.Abs.Det

/- sub: a row. -/
namespace Go.Abs.Det
open Go Go.Abs
set_option linter.unusedSimpArgs false
set_option linter.unusedVariables false

structure Rw where
  z : Bool
  l : List Int
structure Rws where
  z : Bool
  l : List Rw
structure Dfa where
  vars : Int
  empty : Int
  z : Bool
  next : List Rws
  zf : Bool
  fin : List Bool
def rwV (r : Rw) : AV := .sl r.z r.l.length (xCK r.l)
def yEy (r : Rws) : AV := .sl r.z r.l.length (r.l.map rwV)
def xEk (l : List Bool) : List AV := l.map AV.bool
def Dfa.cells (d : Dfa) : List AV := [.int .i64 d.vars, .int .i64 d.empty, .sl d.z d.next.length (d.next.map yEy), .sl d.zf d.fin.length (xEk d.fin)]
def Dfa.av (d : Dfa) : AV := .agg d.cells

theorem xDd {α : Type} (f : α → AV) (a : α) {l : List α} {i : Nat} (h : i < l.length) : List.take 1 (List.drop i (l.map f)) = [f (l.getD i a)] := by
  rw [List.drop_eq_getElem_cons (by simpa using h)]
  simp [List.getD, List.getElem?_eq_getElem h]
theorem xA2 (l : List Bool) : (xEk l).length = l.length := List.length_map ..
theorem xRA (n : Nat) : xEg [AV.int .i64 0] n = xCK (List.replicate n 0) := by
  induction n with
  | zero => rfl
  | succ n ih => simp [xEg, ih, xCK, List.replicate_succ]

section
variable {d : Dfa} {n m l r k : Nat} {s4 s5 s7 : AV}
end
end Go.Abs.Det

/- sub: the rows of a state; all states; sub. -/
namespace Go.Abs.Det
open Go Go.Abs
set_option linter.unusedSimpArgs false
set_option linter.unusedVariables false

def xPp (l : List Int) : AV := .sl false l.length (xCK l)
theorem xRB (l : List Int) : (xCK l).all xCA = true := by
  induction l with
  | nil => rfl
  | cons a l ih => simp [xCK, xCA]

section
variable {d : Dfa} {n m l B : Nat} {v2 : Int} {c1 c2 c3 : AV}
end
end Go.Abs.Det

/- sub: all states. -/
namespace Go.Abs.Det
open Go Go.Abs
set_option linter.unusedSimpArgs false
set_option linter.unusedVariables false

theorem xRC (a b : List Bool) : xEk a ++ xEk b = xEk (a ++ b) := by simp [xEk]

end Go.Abs.Det

/- sub. -/
namespace Go.Abs.Det
open Go Go.Abs
set_option linter.unusedSimpArgs false
set_option linter.unusedVariables false

theorem xPq (l : List Bool) : (xEk l).all xCA = true := by
  induction l with
  | nil => rfl
  | cons a l ih => simp [xEk, xCA]

def two (v : Int) : Nat := 2 ^ v.toNat
theorem xTG {fn : AFunc} {args : List AV} {r v : AV} {H : xAA} (h : xBD L fn args [] = some (r, H)) (hf : frz xBI H r = some v) : xBc L fn args = some v := by
  unfold xBc; rw [h]; exact hf

end Go.Abs.Det

/- Automata as data; Check of a valid one. -/
namespace Go.Abs.Det
open Go Go.Abs
set_option linter.unusedSimpArgs false
set_option linter.unusedVariables false

structure Da where
  vars : Int
  empty : Int
  next : List (List (List Int))
  fin : List Bool
def xFi (l : List (List Int)) : AV := .sl false l.length (l.map xPp)
def Da.cells (D : Da) : List AV := [.int .i64 D.vars, .int .i64 D.empty, .sl false D.next.length (D.next.map xFi), .sl false D.fin.length (xEk D.fin)]
def Da.av (D : Da) : AV := .agg D.cells
theorem xU5 {l : List (List Int)} {i : Nat} (h : i < l.length) : List.take 1 (List.drop i (l.map xPp)) = [xPp (l.getD i [])] := xDd _ _ h
theorem xRD {l : List (List (List Int))} {i : Nat} (h : i < l.length) : List.take 1 (List.drop i (l.map xFi)) = [xFi (l.getD i [])] := xDd _ _ h

structure Va (D : Da) : Prop where
  v0 : 0 ≤ D.vars
  v3 : D.vars ≤ 3
  n0 : 0 < D.next.length
  n64 : D.next.length ≤ 64
  fl : D.fin.length = D.next.length
  e0 : 0 ≤ D.empty
  en : D.empty < D.next.length
  rl : ∀ rows ∈ D.next, rows.length = D.next.length
  cl : ∀ rows ∈ D.next, ∀ row ∈ rows, row.length = two D.vars
  ce : ∀ rows ∈ D.next, ∀ row ∈ rows, ∀ s ∈ row, 0 ≤ s ∧ s < D.next.length

theorem xCy {α : Type} {l : List α} {i : Nat} {a : α} (h : i < l.length) : l.getD i a ∈ l := by
  rw [List.getD_eq_getElem?_getD, List.getElem?_eq_getElem h]
  exact List.getElem_mem _
theorem xFf {v : Int} (h : v ≤ 3) : two v ≤ 8 ∧ 0 < two v := by
  have : v.toNat = 0 ∨ v.toNat = 1 ∨ v.toNat = 2 ∨ v.toNat = 3 := by omega
  unfold two
  rcases this with e | e | e | e <;> rw [e] <;> decide
theorem xKN {v : Int} (h0 : 0 ≤ v) (h : v ≤ 3) : IntKind.i64.wrap (1 * 2 ^ min v.toNat IntKind.i64.bits) = (two v : Nat) := by
  have : v = 0 ∨ v = 1 ∨ v = 2 ∨ v = 3 := by omega
  rcases this with rfl | rfl | rfl | rfl <;> decide

theorem xRE {k : Nat} {s : Int} {n : Nat} {H : xAA} (h : H[k]? = some (.cells false false [.int .i64 (n : Nat)])) : L.icall (.func 52 [.ptr k 0]) [.int .i64 s] H = some (.bool (decide (0 ≤ s ∧ s < (n : Nat))), H) := by
  rw [yDL, a52]
  by_cases c : 0 ≤ s
  · by_cases c2 : s < (n : Nat)
    · rw [decide_eq_true ⟨c, c2⟩]
      simp (maxSteps := 30000000) (disch := first | assumption | omega | (simp only [List.length_cons, List.length_nil, List.length_append, List.length_set, List.length_replicate, List.length_map, List.length_range, List.length_take, List.length_drop, List.all_cons, List.all_nil, AV.isCell, Bool.and_self, Bool.and_true, xAh, xAb, xAe, xAa, xAa, xA2, List.length_map] <;> omega) | rfl | decide) only [List.cons_append, List.nil_append, xAI, List.length_cons, List.length_nil, Nat.zero_add, Nat.reduceAdd, Nat.reduceSub, xB8, xAo, xAf, xAc, xAk, xAE, opv, xAp, List.set_cons_succ, List.set_cons_zero, xAi, xAg, xAj, xAd, List.getD_cons_zero, xAH, List.getD_cons_succ, xCj, c, decide_true, xAl, xAJ, xAD, ↓reduceIte, xAP, xA5, h, xAz, List.drop_zero, List.take_succ_cons, List.take_nil, xAV, xAL, c2, xA7, xAK, xAO, xAx, xAF, xAU, xAr]
    · rw [decide_eq_false (by omega)]
      simp (maxSteps := 30000000) (disch := first | assumption | omega | (simp only [List.length_cons, List.length_nil, List.length_append, List.length_set, List.length_replicate, List.length_map, List.length_range, List.length_take, List.length_drop, List.all_cons, List.all_nil, AV.isCell, Bool.and_self, Bool.and_true, xAh, xAb, xAe, xAa, xAa, xA2, List.length_map] <;> omega) | rfl | decide) only [List.cons_append, List.nil_append, xAI, List.length_cons, List.length_nil, Nat.zero_add, Nat.reduceAdd, Nat.reduceSub, xB8, xAo, xAf, xAc, xAk, xAE, opv, xAp, List.set_cons_succ, List.set_cons_zero, xAi, xAg, xAj, xAd, List.getD_cons_zero, xAH, List.getD_cons_succ, xCj, c, decide_true, xAl, xAJ, xAD, ↓reduceIte, xAP, xA5, h, xAz, List.drop_zero, List.take_succ_cons, List.take_nil, xAV, xAL, c2, decide_false, xA7, xAK, xAO, xAx, xAF, xAU, xAr]
  · rw [decide_eq_false (by omega)]
    simp (maxSteps := 30000000) (disch := first | assumption | omega | (simp only [List.length_cons, List.length_nil, List.length_append, List.length_set, List.length_replicate, List.length_map, List.length_range, List.length_take, List.length_drop, List.all_cons, List.all_nil, AV.isCell, Bool.and_self, Bool.and_true, xAh, xAb, xAe, xAa, xAa, xA2, List.length_map] <;> omega) | rfl | decide) only [List.cons_append, List.nil_append, xAI, List.length_cons, List.length_nil, Nat.zero_add, Nat.reduceAdd, Nat.reduceSub, xB8, xAo, xAf, xAc, xAk, xAE, opv, xAp, List.set_cons_succ, List.set_cons_zero, xAi, xAg, xAj, xAd, List.getD_cons_zero, xAH, List.getD_cons_succ, xCj, c, decide_false, xAl, xAJ, xAD, Bool.false_eq_true, ↓reduceIte, xCf, xA7, xAK, xAO, xAx, xAF, xAU, xAr]
end Go.Abs.Det

/- Check of a valid automaton. -/
namespace Go.Abs.Det
open Go Go.Abs
set_option linter.unusedSimpArgs false
set_option linter.unusedVariables false

section
variable {D : Da} {H : xAA} {s43 s44 s45 s53 s54 s55 : AV}

theorem xW4 {row : List Int} (hl : row.length ≤ 8) (h1 : H[1]? = some (.cells false false [.int .i64 (D.next.length : Nat)])) (hs : ∀ s ∈ row, 0 ≤ s ∧ s < D.next.length) : ∀ e i, i + e = row.length →
    L.loop xKW xSp ⟨xKX (.ptr 0 0) (.int .i64 0) (.ptr 1 0) (.func 52 [.ptr 1 0]) s43 s44 s45 s53 s54 s55 (.sl false row.length (xCK row)) (.int .i64 (row.length : Nat)) (.int .i64 (i : Nat)), H⟩ =
      some (.exit 5, ⟨xKX (.ptr 0 0) (.int .i64 0) (.ptr 1 0) (.func 52 [.ptr 1 0]) s43 s44 s45 s53 s54 s55 (.sl false row.length (xCK row)) (.int .i64 (row.length : Nat)) (.int .i64 (row.length : Nat)), H⟩) := by
  intro e
  induction e with
  | zero =>
    intro i h
    obtain rfl : i = row.length := by omega
    rw [xUd]
    simp (maxSteps := 30000000) (disch := first | assumption | omega | (simp only [List.length_cons, List.length_nil, List.length_append, List.length_set, List.length_replicate, List.length_map, List.length_range, List.length_take, List.length_drop, List.all_cons, List.all_nil, AV.isCell, Bool.and_self, Bool.and_true, xAh, xAb, xAe, xAa, xAa, xA2, List.length_map] <;> omega) | rfl | decide) only [xNu, xAo, xAf, xAc, xAk, xAH, opv, List.getD_cons_succ, List.getD_cons_zero, xAL, Int.lt_irrefl, decide_false, xAl, xAp, List.set_cons_succ, List.set_cons_zero, xAi, xAg, xAj, xAd, xAq, xAn, Bool.false_eq_true, ↓reduceIte, xBy, xBh, xA9, xPG]
  | succ e ih =>
    intro i h
    have hlt : (i : Int) < (row.length : Nat) := by omega
    have ih' := ih (i + 1) (by omega)
    have hs' := hs _ (xCy (a := 0) (show i < row.length by omega))
    have h52 := xRE (s := row.getD i 0) h1
    rw [decide_eq_true hs'] at h52
    rw [xUd]
    simp (maxSteps := 30000000) (disch := first | assumption | omega | (simp only [List.length_cons, List.length_nil, List.length_append, List.length_set, List.length_replicate, List.length_map, List.length_range, List.length_take, List.length_drop, List.all_cons, List.all_nil, AV.isCell, Bool.and_self, Bool.and_true, xAh, xAb, xAe, xAa, xAa, xA2, List.length_map] <;> omega) | rfl | decide) only [xNu, xAo, xAf, xAc, xAk, xAH, opv, List.getD_cons_succ, List.getD_cons_zero, xAL, hlt, decide_true, xAl, xAp, List.set_cons_succ, List.set_cons_zero, xAi, xAg, xAj, xAd, xAq, xAn, ↓reduceIte, xAG, xAs, xA4, xA6, Int.toNat_natCast, Nat.mul_one, xAP, xBu, xCq, xB7, xDa, xCm, Nat.add_zero, xAV, xAE, xBY, List.map_cons, List.map_nil, h52, xGl, xEa, Bool.not_true, Bool.false_eq_true, xAu, xBq, xCE, xDf, xAM, xPG, ih']

theorem xTH {rows : List (List Int)} (hv0 : 0 ≤ D.vars) (hv3 : D.vars ≤ 3) (hl : rows.length ≤ 64) (h0 : H[0]? = some (.cells false false D.cells)) (h1 : H[1]? = some (.cells false false [.int .i64 (D.next.length : Nat)]))
    (hc : ∀ row ∈ rows, row.length = two D.vars) (hs : ∀ row ∈ rows, ∀ s ∈ row, 0 ≤ s ∧ s < D.next.length) : ∀ e i, i + e = rows.length →
    L.loop xKY xSq ⟨xKZ (.ptr 0 0) (.int .i64 0) (.ptr 1 0) (.func 52 [.ptr 1 0]) s43 s44 s45 (.sl false rows.length (rows.map xPp)) (.int .i64 (rows.length : Nat)) (.int .i64 (i : Nat)), H⟩ =
      some (.exit 3, ⟨xKZ (.ptr 0 0) (.int .i64 0) (.ptr 1 0) (.func 52 [.ptr 1 0]) s43 s44 s45 (.sl false rows.length (rows.map xPp)) (.int .i64 (rows.length : Nat)) (.int .i64 (rows.length : Nat)), H⟩) := by
  intro e
  induction e with
  | zero =>
    intro i h
    obtain rfl : i = rows.length := by omega
    rw [xUe]
    simp (maxSteps := 30000000) (disch := first | assumption | omega | (simp only [List.length_cons, List.length_nil, List.length_append, List.length_set, List.length_replicate, List.length_map, List.length_range, List.length_take, List.length_drop, List.all_cons, List.all_nil, AV.isCell, Bool.and_self, Bool.and_true, xAh, xAb, xAe, xAa, xAa, xA2, List.length_map] <;> omega) | rfl | decide) only [xNv, xAo, xAf, xAc, xAk, xAH, opv, List.getD_cons_succ, List.getD_cons_zero, xAL, Int.lt_irrefl, decide_false, xAl, xAp, List.set_cons_succ, List.set_cons_zero, xAi, xAg, xAj, xAd, xAq, xAn, Bool.false_eq_true, ↓reduceIte, xBy, xBh, xA9, xPH]
  | succ e ih =>
    intro i h
    have hlt : (i : Int) < (rows.length : Nat) := by omega
    have ih' := ih (i + 1) (by omega)
    have hm := xCy (a := ([] : List Int)) (show i < rows.length by omega)
    have hr := xW4 (D := D) (H := H) (s43 := s43) (s44 := s44) (s45 := s45) (s53 := .sl false rows.length (rows.map xPp)) (s54 := .int .i64 (rows.length : Nat)) (s55 := .int .i64 (i : Nat)) (by rw [hc _ hm]; exact (xFf hv3).1) h1 (hs _ hm) (rows.getD i []).length 0 (by omega)
    have hcl := hc _ hm
    have hsh := xKN hv0 hv3
    have hv : ¬ D.vars < 0 := by omega
    simp only [Int.natCast_zero] at hr
    unfold Da.cells at h0
    rw [xUe]
    rw [hcl] at hr
    simp (maxSteps := 30000000) (disch := first | assumption | omega | (simp only [List.length_cons, List.length_nil, List.length_append, List.length_set, List.length_replicate, List.length_map, List.length_range, List.length_take, List.length_drop, List.all_cons, List.all_nil, AV.isCell, Bool.and_self, Bool.and_true, xAh, xAb, xAe, xAa, xAa, xA2, List.length_map] <;> omega) | rfl | decide) only [xNv, xAo, xAf, xAc, xAk, xAH, opv, List.getD_cons_succ, List.getD_cons_zero, xAL, hlt, decide_true, xAl, xAp, List.set_cons_succ, List.set_cons_zero, xAi, xAg, xAj, xAd, xAq, xAn, ↓reduceIte, xAG, xAs, xA4, xA6, Int.toNat_natCast, Nat.mul_one, xAP, xBu, xU5, xPp, hcl, xAV, xAE, xBr, xBf, xA1, xAQ, Nat.add_zero, xA5, h0, xAz, List.drop_zero, List.take_succ_cons, List.take_zero, xDs, hsh, xA8, Bool.not_true, Bool.false_eq_true, xBe, xPG, hr, xA0, xAu, xBq, xCE, xDf, xAM, xPH, ih']

theorem xPr (hV : Va D) (h0 : H[0]? = some (.cells false false D.cells)) (h1 : H[1]? = some (.cells false false [.int .i64 (D.next.length : Nat)])) : ∀ e i, i + e = D.next.length →
    L.loop xK0 xSr ⟨xK1 (.ptr 0 0) (.int .i64 0) (.ptr 1 0) (.func 52 [.ptr 1 0]) (.sl false D.next.length (D.next.map xFi)) (.int .i64 (D.next.length : Nat)) (.int .i64 (i : Nat)), H⟩ =
      some (.exit 1, ⟨xK1 (.ptr 0 0) (.int .i64 0) (.ptr 1 0) (.func 52 [.ptr 1 0]) (.sl false D.next.length (D.next.map xFi)) (.int .i64 (D.next.length : Nat)) (.int .i64 (D.next.length : Nat)), H⟩) := by
  intro e
  induction e with
  | zero =>
    intro i h
    obtain rfl : i = D.next.length := by omega
    have hn := hV.n64
    rw [xUf]
    simp (maxSteps := 30000000) (disch := first | assumption | omega | (simp only [List.length_cons, List.length_nil, List.length_append, List.length_set, List.length_replicate, List.length_map, List.length_range, List.length_take, List.length_drop, List.all_cons, List.all_nil, AV.isCell, Bool.and_self, Bool.and_true, xAh, xAb, xAe, xAa, xAa, xA2, List.length_map] <;> omega) | rfl | decide) only [xNw, xAo, xAf, xAc, xAk, xAH, opv, List.getD_cons_succ, List.getD_cons_zero, xAL, Int.lt_irrefl, decide_false, xAl, xAp, List.set_cons_succ, List.set_cons_zero, xAi, xAg, xAj, xAd, xAq, xAn, Bool.false_eq_true, ↓reduceIte, xBy, xBh, xA9, xPI]
  | succ e ih =>
    intro i h
    have hlt : (i : Int) < (D.next.length : Nat) := by omega
    have ih' := ih (i + 1) (by omega)
    have hm := xCy (a := ([] : List (List Int))) (show i < D.next.length by omega)
    have hrl := hV.rl _ hm
    have hn := hV.n64
    have hr := xTH (D := D) (H := H) (s43 := .sl false D.next.length (D.next.map xFi)) (s44 := .int .i64 (D.next.length : Nat)) (s45 := .int .i64 (i : Nat)) hV.v0 hV.v3 (by omega) h0 h1 (hV.cl _ hm) (hV.ce _ hm) (D.next.getD i []).length 0 (by omega)
    simp only [Int.natCast_zero] at hr
    rw [hrl] at hr
    rw [xUf]
    simp (maxSteps := 30000000) (disch := first | assumption | omega | (simp only [List.length_cons, List.length_nil, List.length_append, List.length_set, List.length_replicate, List.length_map, List.length_range, List.length_take, List.length_drop, List.all_cons, List.all_nil, AV.isCell, Bool.and_self, Bool.and_true, xAh, xAb, xAe, xAa, xAa, xA2, List.length_map] <;> omega) | rfl | decide) only [xNw, xAo, xAf, xAc, xAk, xAH, opv, List.getD_cons_succ, List.getD_cons_zero, xAL, hlt, decide_true, xAl, xAp, List.set_cons_succ, List.set_cons_zero, xAi, xAg, xAj, xAd, xAq, xAn, ↓reduceIte, xAG, xAs, xA4, xA6, Int.toNat_natCast, Nat.mul_one, xAP, xBu, xRD, xFi, hrl, xAV, xAE, xBr, xBf, xA5, h1, xAz, List.drop_zero, List.take_succ_cons, List.take_nil, xA8, Bool.not_true, Bool.false_eq_true, xBe, xPH, hr, xA0, xAu, xBq, xCE, xDf, xAM, xPI, ih']
end

theorem xOu (D : Da) (hV : Va D) : L.pcall 14 [D.av] = some (.int .i64 0) := by
  have v0 := hV.v0
  have v3 := hV.v3
  have n0 := hV.n0
  have n64 := hV.n64
  have fl := hV.fl
  have hr := fun T => xPr (H := .cells false false D.cells :: .cells false false [.int .i64 (D.next.length : Nat)] :: T) hV rfl rfl D.next.length 0 (by omega)
  have h52 := fun T => xRE (k := 1) (s := D.empty) (n := D.next.length) (H := .cells false false D.cells :: .cells false false [.int .i64 (D.next.length : Nat)] :: T) rfl
  have e0 := hV.e0
  have en := hV.en
  rw [decide_eq_true ⟨e0, en⟩] at h52
  have c1 : ¬ D.vars < 0 := by omega
  have c2 : ¬ (3 : Int) < D.vars := by omega
  have c3 : (((D.next.length : Nat) : Int) = 0) = False := eq_false (by omega)
  have c4 : ¬ (64 : Int) < (D.next.length : Nat) := by omega
  simp only [Int.natCast_zero] at hr
  unfold Da.cells at hr h52
  simp only [fl] at hr h52
  unfold Da.av Da.cells
  rw [yDE, a14, xAT]
  simp (maxSteps := 30000000) (disch := first | assumption | omega | (simp only [List.length_cons, List.length_nil, List.length_append, List.length_set, List.length_replicate, List.length_map, List.length_range, List.length_take, List.length_drop, List.all_cons, List.all_nil, AV.isCell, Bool.and_self, Bool.and_true, xAh, xAb, xAe, xAa, xAa, xA2, List.length_map] <;> omega) | rfl | decide) only [fl, xAI, List.length_cons, List.length_nil, Nat.zero_add, Nat.reduceSub, xB8, List.cons_append, List.nil_append, xAo, xAf, xAc, xAk, xBn, AV.cells, opv, List.getD_cons_zero, List.all_cons, AV.isCell, List.all_nil, Bool.and_self, ↓reduceIte, xAp, List.set_cons_succ, List.set_cons_zero, xAi, xAE, xAg, xAj, xAd, xA1, List.getD_cons_succ, xAQ, xAl, xAP, xA5, List.getElem?_cons_zero, xAz, List.drop_succ_cons, List.drop_zero, List.take_succ_cons, List.take_zero, xAV, xBr, xBf, xBb, xBH, List.getElem?_cons_succ, xA3, xBd, List.drop_nil, List.append_nil, xAR, xBl, xEc, List.map_cons, List.map_nil, xAs, Nat.add_zero, xAH, xAL, c1, decide_false, xAJ, xAD, xBP, c2, xA7, xAK, Bool.false_eq_true, xAq, xAn, List.take_nil, xBK, c3, c4, xA8, decide_true, Bool.not_true, xBY, h52, xGl, xEa, xAG, xAu, xBe, xPI, hr, xA0, xAO, xAx, xAF, xAU, xAr, xAt, xBI, xAW]

end Go.Abs.Det

/- States of trees; run. -/
namespace Go.Abs.Det
open Go Go.Abs
set_option linter.unusedSimpArgs false
set_option linter.unusedVariables false

def nx (D : Da) (a b : Int) (x : Nat) : Int := ((D.next.getD a.toNat []).getD b.toNat []).getD x 0
def stB (D : Da) : BT → Int
  | .nil => D.empty
  | .node x l r => nx D (stB D l) (stB D r) x
def stL (D : Da) : BT → List Int
  | .nil => []
  | .node x l r => stB D (.node x l r) :: (stL D l ++ stL D r)
theorem xFH (D : Da) : ∀ T : BT, (stL D T).length = T.size
  | .nil => rfl
  | .node x l r => by rw [stL, List.length_cons, List.length_append, xFH D l, xFH D r, BT.size]; omega

theorem xZF {D : Da} (hV : Va D) {a b : Int} {x : Nat} (ha : 0 ≤ a ∧ a < D.next.length) (hb : 0 ≤ b ∧ b < D.next.length) (hx : x < two D.vars) : 0 ≤ nx D a b x ∧ nx D a b x < D.next.length := by
  have h1 := xCy (a := ([] : List (List Int))) (show a.toNat < D.next.length by omega)
  have h2 := xCy (a := ([] : List Int)) (show b.toNat < (D.next.getD a.toNat []).length by rw [hV.rl _ h1]; omega)
  have h3 := xCy (a := (0 : Int)) (show x < ((D.next.getD a.toNat []).getD b.toNat []).length by rw [hV.cl _ h1 _ h2]; omega)
  exact hV.ce _ h1 _ h2 _ h3
theorem xOv {D : Da} (hV : Va D) : ∀ {T : BT}, T.labs (· < two D.vars) → 0 ≤ stB D T ∧ stB D T < D.next.length
  | .nil, _ => ⟨hV.e0, hV.en⟩
  | .node x l r, h => xZF hV (xOv hV h.2.1) (xOv hV h.2.2) h.1

theorem xTI (D : Da) {T : BT} (h : 0 < T.size) : (stL D T).getD 0 0 = stB D T := by
  cases T with
  | nil => simp [BT.size] at h
  | node x l r => rfl

theorem xRF (D : Da) : ∀ (T : BT) (m : Nat) (S : Nat → Int), (∀ k, k < T.size → S (m + k) = (stL D T).getD k 0) → ∀ k, k < T.size →
    S (m + k) = nx D (if ((xDp m T).getD k f0).l < 0 then D.empty else S ((xDp m T).getD k f0).l.toNat) (if ((xDp m T).getD k f0).r < 0 then D.empty else S ((xDp m T).getD k f0).r.toNat) ((xDp m T).getD k f0).x ∧
    (((xDp m T).getD k f0).l = -1 ∨ (((m + k : Nat) : Int) < ((xDp m T).getD k f0).l ∧ ((xDp m T).getD k f0).l < ((m + T.size : Nat) : Int))) ∧
    (((xDp m T).getD k f0).r = -1 ∨ (((m + k : Nat) : Int) < ((xDp m T).getD k f0).r ∧ ((xDp m T).getD k f0).r < ((m + T.size : Nat) : Int)))
  | .nil, m, S, hS, k, hk => by simp [BT.size] at hk
  | .node x l r, m, S, hS, k, hk => by
    have hsz : (BT.node x l r).size = 1 + (l.size + r.size) := rfl
    have hl1 := xFH D l
    have hr1 := xFH D r
    have el := xCg l (m + 1)
    have er := xCg r (m + 1 + l.size)
    have Sl : ∀ j, j < l.size → S (m + 1 + j) = (stL D l).getD j 0 := fun j hj => by
      rw [show m + 1 + j = m + (j + 1) by omega, hS (j + 1) (by omega), stL, List.getD_cons_succ]
      simp only [List.getD_eq_getElem?_getD]
      rw [List.getElem?_append_left (by omega)]
    have Sr : ∀ j, j < r.size → S (m + 1 + l.size + j) = (stL D r).getD j 0 := fun j hj => by
      rw [show m + 1 + l.size + j = m + (l.size + j + 1) by omega, hS (l.size + j + 1) (by omega), stL, List.getD_cons_succ]
      simp only [List.getD_eq_getElem?_getD]
      rw [List.getElem?_append_right (by omega), hl1]
      congr 2; omega
    cases k with
    | zero =>
      have e0 : (xDp m (.node x l r)).getD 0 f0 = ⟨x, xDo (m + 1) l, xDo (m + 1 + l.size) r⟩ := rfl
      rw [e0, hS 0 (by omega)]
      have q : ∀ (T : BT) (j : Nat), (∀ i, i < T.size → S (j + i) = (stL D T).getD i 0) → (if xDo j T < 0 then D.empty else S (xDo j T).toNat) = stB D T := fun T j hj => by
        cases T with
        | nil => rfl
        | node y a b =>
          have : ¬ ((j : Nat) : Int) < 0 := by omega
          have hr : xDo j (.node y a b) = (j : Nat) := rfl
          rw [hr, if_neg this, Int.toNat_natCast]
          have := hj 0 (by simp [BT.size]; omega)
          rw [Nat.add_zero] at this
          rw [this]; rfl
      refine ⟨?_, ?_, ?_⟩
      · show (stL D (.node x l r)).getD 0 0 = nx D (if xDo (m + 1) l < 0 then _ else _) (if xDo (m + 1 + l.size) r < 0 then _ else _) x
        rw [q l (m + 1) Sl, q r (m + 1 + l.size) Sr]
        rfl
      · cases l with
        | nil => exact .inl rfl
        | node y a b => exact .inr ⟨by simp only [xDo]; omega, by simp only [xDo, BT.size]; omega⟩
      · cases r with
        | nil => exact .inl rfl
        | node y a b => exact .inr ⟨by simp only [xDo]; omega, by simp only [xDo, BT.size]; omega⟩
    | succ k =>
      by_cases hkl : k < l.size
      · have e0 : (xDp m (.node x l r)).getD (k + 1) f0 = (xDp (m + 1) l).getD k f0 := by
          rw [xDp, List.getD_cons_succ]
          simp only [List.getD_eq_getElem?_getD]
          rw [List.getElem?_append_left (by omega)]
        obtain ⟨i1, i2, i3⟩ := xRF D l (m + 1) S Sl k hkl
        rw [e0, show m + (k + 1) = m + 1 + k by omega]
        refine ⟨i1, ?_, ?_⟩
        · rcases i2 with q | q
          · exact .inl q
          · exact .inr ⟨q.1, by rw [hsz]; omega⟩
        · rcases i3 with q | q
          · exact .inl q
          · exact .inr ⟨q.1, by rw [hsz]; omega⟩
      · have e0 : (xDp m (.node x l r)).getD (k + 1) f0 = (xDp (m + 1 + l.size) r).getD (k - l.size) f0 := by
          rw [xDp, List.getD_cons_succ]
          simp only [List.getD_eq_getElem?_getD]
          rw [List.getElem?_append_right (by omega), el]
        obtain ⟨i1, i2, i3⟩ := xRF D r (m + 1 + l.size) S Sr (k - l.size) (by omega)
        have e1 : m + 1 + l.size + (k - l.size) = m + (k + 1) := by omega
        rw [e1] at i1 i2 i3
        rw [e0]
        refine ⟨i1, ?_, ?_⟩
        · rcases i2 with q | q
          · exact .inl q
          · exact .inr ⟨q.1, by rw [hsz]; omega⟩
        · rcases i3 with q | q
          · exact .inl q
          · exact .inr ⟨q.1, by rw [hsz]; omega⟩

theorem xW5 {l : List Lf} {i : Nat} (h : i < l.length) : List.take 1 (List.drop (i * 3) (lfs l)) = [.int .u8 ((l.getD i f0).x : Nat)] := by
  rw [xH0 h]; rfl

theorem xZG {c : Int} {n : Nat} {cur : List Int} (hn : cur.length = n + 1) (hn2 : n < 1099511627776) (hc : c < 0 ∨ c < (n : Nat)) :
    L.pcall 100 [.int .i64 c, .vptr [.int .i64 (n : Nat)] 0, .vptr [.sl false (n + 1) (xCK cur)] 0] = some (.int .i64 (if c < 0 then cur.getD n 0 else cur.getD c.toNat 0)) := by
  by_cases h : c < 0
  · rw [if_pos h, xYk, xYc, xAT]
    have hg : List.take 1 (List.drop n (xCK cur)) = [.int .i64 (cur.getD n 0)] := xDd _ _ (by omega)
    simp (maxSteps := 30000000) (disch := first | assumption | omega | (simp only [List.length_cons, List.length_nil, List.length_append, List.length_set, List.length_replicate, List.length_map, List.length_range, List.length_take, List.length_drop, List.all_cons, List.all_nil, AV.isCell, Bool.and_self, Bool.and_true, xAh, xAb, xAe, xAa, xAa, xA2, List.length_map, xAC] <;> omega) | rfl | decide) only [xAI, List.length_cons, List.length_nil, Nat.zero_add, Nat.reduceAdd, Nat.reduceSub, xB8, List.cons_append, List.nil_append, xAo, xAf, xAc, xAk, xAE, opv, xAp, List.set_cons_succ, List.set_cons_zero, xAi, xAg, xAj, xAd, List.getD_cons_zero, xAH, List.getD_cons_succ, xAL, h, decide_true, xAl, xAq, xAn, ↓reduceIte, xAP, xBu, List.drop_zero, List.take_succ_cons, List.take_nil, xAV, xA4, xA6, Int.toNat_natCast, Nat.mul_one, xCq, xB7, xDa, xCm, Nat.add_zero, xAO, xAx, xAF, xAU, xAr, xAt, xBI, xAW]
  · rw [if_neg h, xYk, xYc, xAT]
    have h0 : 0 ≤ c := by omega
    have hg : List.take 1 (List.drop c.toNat (xCK cur)) = [.int .i64 (cur.getD c.toNat 0)] := xDd _ _ (by omega)
    simp (maxSteps := 30000000) (disch := first | assumption | omega | (simp only [List.length_cons, List.length_nil, List.length_append, List.length_set, List.length_replicate, List.length_map, List.length_range, List.length_take, List.length_drop, List.all_cons, List.all_nil, AV.isCell, Bool.and_self, Bool.and_true, xAh, xAb, xAe, xAa, xAa, xA2, List.length_map, xAC] <;> omega) | rfl | decide) only [xAI, List.length_cons, List.length_nil, Nat.zero_add, Nat.reduceAdd, Nat.reduceSub, xB8, List.cons_append, List.nil_append, xAo, xAf, xAc, xAk, xAE, opv, xAp, List.set_cons_succ, List.set_cons_zero, xAi, xAg, xAj, xAd, List.getD_cons_zero, xAH, List.getD_cons_succ, xAL, h, decide_false, xAl, xAq, xAn, Bool.false_eq_true, ↓reduceIte, xAG, xAP, xBu, List.drop_zero, List.take_succ_cons, List.take_nil, xAV, xA4, xA6, Nat.mul_one, xCq, xB7, xDa, xCm, Nat.add_zero, xAO, xAx, xAF, xAU, xAr, xAt, xBI, xAW]
end Go.Abs.Det

/- run; both; Run. -/
namespace Go.Abs.Det
open Go Go.Abs
set_option linter.unusedSimpArgs false
set_option linter.unusedVariables false

theorem xRG {D : Da} (hV : Va D) {z : Bool} {t : List Lf} {S : List Int} (ht : t.length ≤ 31) (hS : S.length = t.length + 1) (hx : ∀ e ∈ t, e.x < two D.vars)
    (hend : S.getD t.length 0 = D.empty) (hbd : ∀ s ∈ S, 0 ≤ s ∧ s < D.next.length)
    (hrec : ∀ k, k < t.length → S.getD k 0 = nx D (if (t.getD k f0).l < 0 then D.empty else S.getD (t.getD k f0).l.toNat 0) (if (t.getD k f0).r < 0 then D.empty else S.getD (t.getD k f0).r.toNat 0) (t.getD k f0).x ∧
      ((t.getD k f0).l = -1 ∨ ((k : Int) < (t.getD k f0).l ∧ (t.getD k f0).l < (t.length : Nat))) ∧ ((t.getD k f0).r = -1 ∨ ((k : Int) < (t.getD k f0).r ∧ (t.getD k f0).r < (t.length : Nat)))) :
    ∀ i, i ≤ t.length → L.loop xK6 xSu ⟨xK7 (tw z t) (.ptr 0 0) (.ptr 3 0) (.func 100 [.ptr 1 0, .ptr 3 0]) (.int .i64 ((i : Nat) - 1)), [.cells false false D.cells, .cells false false [.int .i64 (t.length : Nat)], .cells false false (xCK (List.replicate i 0 ++ S.drop i)), .cells false false [.own false 2 0 (t.length + 1) 1]]⟩ =
      some (.exit 0, ⟨xK7 (tw z t) (.ptr 0 0) (.ptr 3 0) (.func 100 [.ptr 1 0, .ptr 3 0]) (.int .i64 (-1)), [.cells false false D.cells, .cells false false [.int .i64 (t.length : Nat)], .cells false false (xCK S), .cells false false [.own false 2 0 (t.length + 1) 1]]⟩) := by
  intro i
  induction i with
  | zero =>
    intro _
    rw [List.replicate_zero, List.nil_append, List.drop_zero]
    have e1 : (((0 : Nat) : Int) - 1) = -1 := by omega
    rw [e1, xUq]
    simp (maxSteps := 30000000) (disch := first | assumption | omega | (simp only [List.length_cons, List.length_nil, List.length_append, List.length_set, List.length_replicate, List.length_map, List.length_range, List.length_take, List.length_drop, List.all_cons, List.all_nil, AV.isCell, Bool.and_self, Bool.and_true, xAh, xAb, xAe, xAa, xAa, xA2, List.length_map, xAC] <;> omega) | rfl | decide) only [xNH, Int.reduceNeg, xAo, xAf, xAc, xAk, xAE, opv, List.getD_cons_succ, List.getD_cons_zero, xAp, List.set_cons_succ, List.set_cons_zero, xAi, xAH, xCj, Int.reduceLE, decide_false, xAl, xAg, xAj, xAd, xAq, xAn, Bool.false_eq_true, ↓reduceIte, xBy, xBh, xA9, xPV]
  | succ i ih =>
    intro hi
    have ih' := ih (by omega)
    obtain ⟨q1, q2, q3⟩ := hrec i (by omega)
    have e1 : (((i + 1 : Nat) : Int) - 1) = (i : Nat) := by omega
    have hlen : (List.replicate (i + 1) 0 ++ S.drop (i + 1)).length = t.length + 1 := by simp; omega
    have hc0 : ∀ k, i < k → k ≤ t.length → (List.replicate (i + 1) 0 ++ S.drop (i + 1)).getD k 0 = S.getD k 0 := fun k h1 h2 => by
      simp only [List.getD_eq_getElem?_getD]
      rw [List.getElem?_append_right (by simp; omega), List.getElem?_drop]
      congr 2; simp; omega
    have xEn : ∀ y : Int, y = S.getD i 0 → (List.replicate (i + 1) 0 ++ S.drop (i + 1)).set i y = List.replicate i 0 ++ S.drop i := fun y hy => by
      subst hy
      apply List.ext_getElem?
      intro k
      rw [List.getElem?_set]
      by_cases c : i = k
      · subst c
        rw [if_pos rfl, if_pos (by rw [hlen]; omega), List.getElem?_append_right (by simp), List.getElem?_drop]
        have : i + (i - (List.replicate i (0 : Int)).length) = i := by simp
        rw [this, List.getD_eq_getElem?_getD, List.getElem?_eq_getElem (by omega)]
        rfl
      · rw [if_neg c]
        rcases Nat.lt_or_ge k i with h | h
        · rw [List.getElem?_append_left (by simp; omega), List.getElem?_append_left (by simp; omega), List.getElem?_replicate, List.getElem?_replicate, if_pos (by omega), if_pos h]
        · rw [List.getElem?_append_right (by simp; omega), List.getElem?_append_right (by simp; omega), List.getElem?_drop, List.getElem?_drop]
          congr 1; simp; omega
    generalize hcur : List.replicate (i + 1) 0 ++ S.drop (i + 1) = cur at *
    have hxi := hx _ (xKK (show i < t.length by omega))
    generalize hL : (if (t.getD i f0).l < 0 then D.empty else S.getD (t.getD i f0).l.toNat 0) = sl at *
    generalize hR : (if (t.getD i f0).r < 0 then D.empty else S.getD (t.getD i f0).r.toNat 0) = sr at *
    have hin : ∀ k, k ≤ t.length → 0 ≤ S.getD k 0 ∧ S.getD k 0 < D.next.length := fun k hk => hbd _ (xCy (by omega))
    have hl1 : L.pcall 100 [.int .i64 (t.getD i f0).l, .vptr [.int .i64 (t.length : Nat)] 0, .vptr [.sl false (t.length + 1) (xCK cur)] 0] = some (.int .i64 sl) ∧ 0 ≤ sl ∧ sl < D.next.length := by
      have h := xZG (c := (t.getD i f0).l) hlen (by omega) (by omega)
      rw [h, ← hL]
      by_cases c : (t.getD i f0).l < 0
      · rw [if_pos c, if_pos c, hc0 _ (by omega) (Nat.le_refl _), hend]
        exact ⟨rfl, hV.e0, hV.en⟩
      · rw [if_neg c, if_neg c, hc0 _ (by omega) (by omega)]
        exact ⟨rfl, hin _ (by omega)⟩
    have hr1 : L.pcall 100 [.int .i64 (t.getD i f0).r, .vptr [.int .i64 (t.length : Nat)] 0, .vptr [.sl false (t.length + 1) (xCK cur)] 0] = some (.int .i64 sr) ∧ 0 ≤ sr ∧ sr < D.next.length := by
      have h := xZG (c := (t.getD i f0).r) hlen (by omega) (by omega)
      rw [h, ← hR]
      by_cases c : (t.getD i f0).r < 0
      · rw [if_pos c, if_pos c, hc0 _ (by omega) (Nat.le_refl _), hend]
        exact ⟨rfl, hV.e0, hV.en⟩
      · rw [if_neg c, if_neg c, hc0 _ (by omega) (by omega)]
        exact ⟨rfl, hin _ (by omega)⟩
    obtain ⟨hl1, hl2⟩ := hl1
    obtain ⟨hr1, hr2⟩ := hr1
    have k1 := xCy (a := ([] : List (List Int))) (show sl.toNat < D.next.length by omega)
    have l1 := hV.rl _ k1
    have k2 := xCy (a := ([] : List Int)) (show sr.toNat < (D.next.getD sl.toNat []).length by omega)
    have l2 := hV.cl _ k1 _ k2
    have hst := xEn _ q1.symm
    unfold nx at hst
    have n64 := hV.n64
    have htk : List.take (t.length + 1) cur = cur := List.take_of_length_le (by omega)
    have hgc : List.take 1 (List.drop (t.getD i f0).x (xCK ((D.next.getD sl.toNat []).getD sr.toNat []))) = [.int .i64 (((D.next.getD sl.toNat []).getD sr.toNat []).getD (t.getD i f0).x 0)] := xDd _ _ (by omega)
    have hge : (0 : Int) ≤ (i : Nat) := by omega
    have hx8 : two D.vars ≤ 8 := (xFf hV.v3).1
    clear hrec xEn hc0 hin hbd hx
    unfold Da.cells at ih' ⊢
    rw [e1, xUq]
    simp (maxSteps := 30000000) (disch := first | assumption | omega | (simp only [List.length_cons, List.length_nil, List.length_append, List.length_set, List.length_replicate, List.length_map, List.length_range, List.length_take, List.length_drop, List.all_cons, List.all_nil, AV.isCell, Bool.and_self, Bool.and_true, xAh, xAb, xAe, xAa, xAa, xA2, List.length_map, xAC] <;> omega) | rfl | decide) only [xNH, xAo, xAf, xAc, xAk, xAE, opv, List.getD_cons_succ, List.getD_cons_zero, xAp, List.set_cons_succ, List.set_cons_zero, xAi, xAH, xCj, hge, decide_true, xAl, xAg, xAj, xAd, xAq, xAn, ↓reduceIte, xAG, xAs, xBT, List.take_succ_cons, List.take_zero, xBg, xBo, xB4, xAP, xA5, List.getElem?_cons_succ, List.getElem?_cons_zero, xAz, List.drop_zero, List.take_nil, xAV, xBB, xBM, xBA, xCU, xCs, xA1, xAQ, Nat.zero_add, List.drop_succ_cons, xCC, xA4, xA6, Int.toNat_natCast, xES, xBu, xNk, xN6, List.map_cons, List.map_nil, xHB, List.cons_append, List.nil_append, xAZ, xBI, List.mapM_cons, xAW, xQo, xJR, List.mapM_nil, Option.pure_def, Option.bind_eq_bind, Option.bind_some, Option.map_some, xFn, xDj, Nat.mul_one, xB7, htk, xH1, xB5, xAY, hl1, xAX, xCZ, xBU, xCo, xCd, List.flatMap_cons, xBR, xQp, xIw, List.flatMap_nil, List.append_nil, xMS, xHa, xTL, List.all_cons, xJS, List.all_nil, Bool.and_true, Bool.true_or, xRD, xFi, l1, xNl, hr1, xU5, xPp, l2, Nat.add_zero, xW5, xBp, xBz, xCJ, xBG, xCq, xDa, xCm, xBV, xBb, AV.cells, List.length_cons, List.length_nil, xBH, xA3, xBd, List.append_assoc, xMu, hst, xAR, xBl, xAu, xEQ, xDf, xAM, xPV, ih', Int.reduceNeg]

theorem xZH {D : Da} (hV : Va D) (z : Bool) {T : BT} (ht : T.size ≤ 31) (hx : T.labs (· < two D.vars)) : L.pcall 54 [D.av, tw z (xDp 0 T)] = some (.sl false (T.size + 1) (xCK (stL D T ++ [D.empty]))) := by
  have hl := xCg T 0
  have hsl := xFH D T
  have hS : ∀ k, k < T.size → (stL D T ++ [D.empty]).getD k 0 = (stL D T).getD k 0 := fun k hk => by
    simp only [List.getD_eq_getElem?_getD]
    rw [List.getElem?_append_left (by omega)]
  have hE : (stL D T ++ [D.empty]).getD (xDp 0 T).length 0 = D.empty := by
    simp only [List.getD_eq_getElem?_getD]
    rw [List.getElem?_append_right (by omega), hl, hsl, Nat.sub_self]; rfl
  have hbd : ∀ s ∈ stL D T ++ [D.empty], 0 ≤ s ∧ s < D.next.length := by
    have key : ∀ T : BT, T.labs (· < two D.vars) → ∀ s ∈ stL D T, 0 ≤ s ∧ s < D.next.length := by
      intro T
      induction T with
      | nil => intro _ s hs; cases hs
      | node x l r ihl ihr =>
        intro h s hs
        rw [stL, List.mem_cons, List.mem_append] at hs
        rcases hs with rfl | hs | hs
        · exact xOv hV h
        · exact ihl h.2.1 s hs
        · exact ihr h.2.2 s hs
    intro s hs
    rcases List.mem_append.1 hs with q | q
    · exact key T hx s q
    · rw [List.mem_singleton.1 q]; exact ⟨hV.e0, hV.en⟩
  have hrec := fun k (hk : k < (xDp 0 T).length) => by
    have := xRF D T 0 (fun k => (stL D T ++ [D.empty]).getD k 0) (fun k hk => by rw [Nat.zero_add]; exact hS k hk) k (by omega)
    simp only [Nat.zero_add] at this
    rw [← hl] at this
    exact this
  have h := xRG hV (z := z) (t := xDp 0 T) (S := stL D T ++ [D.empty]) (by omega) (by simp; omega) (fun e he => (xE5 T 0).2 hx e he) hE hbd hrec (xDp 0 T).length (Nat.le_refl _)
  have hcur : List.replicate (xDp 0 T).length 0 ++ (stL D T ++ [D.empty]).drop (xDp 0 T).length = (List.replicate (T.size + 1) (0 : Int)).set T.size D.empty := by
    rw [List.drop_append_of_le_length (by omega), List.drop_of_length_le (by omega), hl, List.replicate_succ', List.set_append_right _ _ (by simp)]
    simp
  rw [hcur] at h
  have hfl : (stL D T ++ [D.empty]).length = T.size + 1 := by simp [hsl]
  generalize stL D T ++ [D.empty] = S at *
  have htk : List.take (T.size + 1) S = S := List.take_of_length_le (by omega)
  clear hrec hbd hE hS hcur
  unfold tw at h ⊢
  simp only [hl] at h ⊢
  generalize lfs (xDp 0 T) = tl at *
  generalize T.size = n at *
  unfold Da.av
  unfold Da.cells at h ⊢
  rw [yDM, a54, xAT]
  simp (maxSteps := 30000000) (disch := first | assumption | omega | (simp only [List.length_cons, List.length_nil, List.length_append, List.length_set, List.length_replicate, List.length_map, List.length_range, List.length_take, List.length_drop, List.all_cons, List.all_nil, AV.isCell, Bool.and_self, Bool.and_true, xAh, xAb, xAe, xAa, xAa, xA2, List.length_map, xAC] <;> omega) | rfl | decide) only [xAI, List.length_cons, List.length_nil, Nat.zero_add, Nat.reduceAdd, Nat.reduceSub, xB8, List.cons_append, List.nil_append, xAo, xAf, xAc, xAk, xBn, AV.cells, opv, List.getD_cons_zero, List.all_cons, AV.isCell, List.all_nil, Bool.and_self, ↓reduceIte, xAp, List.set_cons_succ, List.set_cons_zero, xAi, xAE, xAg, xAj, xAd, List.getD_cons_succ, xBr, xBf, xAl, xBb, xBH, List.getElem?_cons_succ, List.getElem?_cons_zero, xA3, xBd, List.take_zero, List.drop_succ_cons, List.drop_nil, List.append_nil, xAR, xBl, xAP, xA5, xAz, List.drop_zero, List.take_succ_cons, List.take_nil, xAV, xAH, xBq, xCE, xDf, xFN, xHP, Int.toNat_natCast, xRA, xCO, xA1, xAQ, xA4, xBV, Nat.mul_one, xB7, xCq, List.append_assoc, xMu, xEc, List.map_cons, List.map_nil, xEQ, xAs, xBe, xPV, h, Int.reduceNeg, xA0, xAO, xAx, xAF, xAU, xAr, xAt, xBI, xFn, xDj, htk, xH1, xB5]

theorem xZI (D : Da) (z : Bool) (t : List Lf) (e1 e2 : Int) (h1 : L.pcall 14 [D.av] = some (.int .i64 e1)) (h2 : e1 = 0 → L.pcall 99 [tw z t, .int .i64 D.vars] = some (.int .i64 e2)) : L.pcall 53 [D.av, tw z t] = some (.int .i64 (if e1 = 0 then e2 else e1)) := by
  unfold Da.av Da.cells at h1 ⊢
  by_cases c : e1 = 0
  · have h2' := h2 c
    subst c
    rw [if_pos rfl, yCO, a53, xAT]
    simp (maxSteps := 30000000) (disch := first | assumption | omega | (simp only [List.length_cons, List.length_nil, List.length_append, List.length_set, List.length_replicate, List.length_map, List.length_range, List.length_take, List.length_drop, List.all_cons, List.all_nil, AV.isCell, Bool.and_self, Bool.and_true, xAh, xAb, xAe, xAa, xAa, xA2, List.length_map, xAC] <;> omega) | rfl | decide) only [xAI, List.length_cons, List.length_nil, Nat.zero_add, Nat.reduceAdd, Nat.reduceSub, xB8, List.cons_append, List.nil_append, xAo, xAf, xAc, xAk, xBn, AV.cells, opv, List.getD_cons_zero, List.all_cons, AV.isCell, List.all_nil, Bool.and_self, ↓reduceIte, xAp, List.set_cons_succ, List.set_cons_zero, xAi, xAE, xAg, xAj, xAd, xAP, List.getD_cons_succ, xA5, List.getElem?_cons_zero, xAz, List.drop_zero, List.take_succ_cons, List.take_nil, xBs, xAl, xBi, List.map_cons, List.map_nil, xAZ, xBI, List.mapM_cons, xBQ, xAW, xBE, List.mapM_nil, Option.pure_def, Option.bind_eq_bind, Option.bind_some, Option.map_some, xAY, h1, xAX, xCZ, xBU, xAH, xA8, decide_true, Bool.not_true, xAq, xAn, Bool.false_eq_true, xAG, xA1, xAQ, Nat.add_zero, List.take_zero, xAV, h2', xAO, xAx, xAF, xAU, xAr, xAt]
  · rw [if_neg c, yCO, a53, xAT]
    simp (maxSteps := 30000000) (disch := first | assumption | omega | (simp only [List.length_cons, List.length_nil, List.length_append, List.length_set, List.length_replicate, List.length_map, List.length_range, List.length_take, List.length_drop, List.all_cons, List.all_nil, AV.isCell, Bool.and_self, Bool.and_true, xAh, xAb, xAe, xAa, xAa, xA2, List.length_map, xAC] <;> omega) | rfl | decide) only [xAI, List.length_cons, List.length_nil, Nat.zero_add, Nat.reduceAdd, Nat.reduceSub, xB8, List.cons_append, List.nil_append, xAo, xAf, xAc, xAk, xBn, AV.cells, opv, List.getD_cons_zero, List.all_cons, AV.isCell, List.all_nil, Bool.and_self, ↓reduceIte, xAp, List.set_cons_succ, List.set_cons_zero, xAi, xAE, xAg, xAj, xAd, xAP, List.getD_cons_succ, xA5, List.getElem?_cons_zero, xAz, List.drop_zero, List.take_succ_cons, List.take_nil, xBs, xAl, xBi, List.map_cons, List.map_nil, xAZ, xBI, List.mapM_cons, xBQ, xAW, xBE, List.mapM_nil, Option.pure_def, Option.bind_eq_bind, Option.bind_some, Option.map_some, xAY, h1, xAX, xCZ, xBU, xAH, xA8, c, decide_false, Bool.not_false, xAq, xAn, xAO, xBa, xAx, xAF, xAU, xAr, xAt]
end Go.Abs.Det

/- Run; EqualInts; CopyInts; the part of the law's automaton as data. -/
namespace Go.Abs.Det
open Go Go.Abs
set_option linter.unusedSimpArgs false
set_option linter.unusedVariables false

theorem xFX {D : Da} (hV : Va D) (z : Bool) (t : List Lf) (hl : t.length < 1099511627776) (hx : ∀ e ∈ t, e.x < 256) : L.pcall 53 [D.av, tw z t] = some (.int .i64 (xE4 t D.vars.toNat)) := by
  have v0 := hV.v0
  have v3 := hV.v3
  have h := xZI D z t 0 (xE4 t D.vars.toNat) (xOu D hV) (fun _ => by
    have := xMt z t D.vars.toNat (by omega) hl hx
    rwa [Int.toNat_of_nonneg v0] at this)
  exact h

theorem xRH {v : Int} {x : Nat} (h0 : 0 ≤ v) : x >>> v.toNat = 0 ↔ x < two v := by
  unfold two
  rw [Nat.shiftRight_eq_div_pow]
  exact Nat.div_eq_zero_iff_lt (Nat.two_pow_pos _)

theorem xJa {t : List Lf} {v : Int} (h0 : 0 ≤ v) : xE4 t v.toNat = 0 ↔ ∃ T, t = xDp 0 T ∧ T.size ≤ 31 ∧ T.labs (· < two v) := by
  unfold xE4
  constructor
  · intro h
    split at h
    · omega
    split at h
    case isFalse => omega
    rename_i h1
    split at h
    case isFalse => omega
    rename_i h2
    obtain ⟨T, hT⟩ := formedB_iff.1 h2
    obtain ⟨e1, e2⟩ := xPo hT
    refine ⟨T, e1, e2, (xE5 T 0).1 fun e he => (xRH h0).1 (labOk_iff.1 h1 e (e1 ▸ he))⟩
  · rintro ⟨T, rfl, h2, h3⟩
    rw [if_neg (by rw [xCg]; omega), if_pos (labOk_iff.2 fun e he => (xRH h0).2 ((xE5 T 0).2 h3 e he)), if_pos (formedB_iff.2 ⟨T, xKb h2⟩)]

theorem xTJ {D : Da} (hV : Va D) (z : Bool) {T : BT} (ht : T.size ≤ 31) (hx : T.labs (· < two D.vars)) : L.pcall 16 [D.av, tw z (xDp 0 T)] = some (.tup [.sl false T.size (xCK (stL D T)), .int .i64 0]) := by
  have hl := xCg T 0
  have h1 := xFX hV z (xDp 0 T) (by omega) (fun e he => by have := (xE5 T 0).2 hx e he; have := (xFf hV.v3).1; omega)
  rw [(xJa hV.v0).2 ⟨T, rfl, ht, hx⟩] at h1
  have h2 := xZH hV z ht hx
  have hsl := xFH D T
  have htk : List.take T.size (stL D T ++ [D.empty]) = stL D T := by rw [List.take_append_of_le_length (by omega), List.take_of_length_le (by omega)]
  unfold tw at h1 h2 ⊢
  simp only [hl] at h1 h2 ⊢
  unfold Da.av at h1 h2 ⊢
  unfold Da.cells at h1 h2 ⊢
  rw [yCL, a16, xAT]
  simp (maxSteps := 30000000) (disch := first | assumption | omega | (simp only [List.length_cons, List.length_nil, List.length_append, List.length_set, List.length_replicate, List.length_map, List.length_range, List.length_take, List.length_drop, List.all_cons, List.all_nil, AV.isCell, Bool.and_self, Bool.and_true, xAh, xAb, xAe, xAa, xAa, xA2, List.length_map, xAC] <;> omega) | rfl | decide) only [xAI, List.length_cons, List.length_nil, Nat.zero_add, Nat.reduceAdd, Nat.reduceSub, xB8, List.cons_append, List.nil_append, xAo, xAf, xAc, xAk, xBn, AV.cells, opv, List.getD_cons_zero, List.all_cons, AV.isCell, List.all_nil, Bool.and_self, ↓reduceIte, xAp, List.set_cons_succ, List.set_cons_zero, xAi, xAE, xAg, xAj, xAd, xAP, List.getD_cons_succ, xA5, List.getElem?_cons_zero, xAz, List.drop_zero, List.take_succ_cons, List.take_nil, xBs, xAl, xBi, List.map_cons, List.map_nil, xAZ, xBI, List.mapM_cons, xBQ, xAW, xBE, List.mapM_nil, Option.pure_def, Option.bind_eq_bind, Option.bind_some, Option.map_some, xAY, h1, xAX, xCZ, xBU, xAH, xA8, decide_true, Bool.not_true, xAq, xAn, Bool.false_eq_true, xAG, h2, xCz, List.flatMap_cons, xEv, xBR, xDk, List.flatMap_nil, List.append_nil, List.foldl_nil, xBr, xBf, xDt, Option.map_none, xDu, xKc, Int.toNat_natCast, xER, Nat.sub_zero, Nat.mul_one, xB7, htk, xAO, xAx, xCH, xCG, xAU, xCF, xC5, xAr, xAt, xDS]

theorem xRI {D : Da} (hV : Va D) (z : Bool) (t : List Lf) (hl : t.length < 1099511627776) (hx : ∀ e ∈ t, e.x < 256) (he : xE4 t D.vars.toNat ≠ 0) : L.pcall 16 [D.av, tw z t] = some (.tup [.sl true 0 [], .int .i64 (xE4 t D.vars.toNat)]) := by
  have h1 := xFX hV z t hl hx
  generalize xE4 t D.vars.toNat = e at *
  unfold Da.av at h1 ⊢
  unfold Da.cells at h1 ⊢
  rw [yCL, a16, xAT]
  simp (maxSteps := 30000000) (disch := first | assumption | omega | (simp only [List.length_cons, List.length_nil, List.length_append, List.length_set, List.length_replicate, List.length_map, List.length_range, List.length_take, List.length_drop, List.all_cons, List.all_nil, AV.isCell, Bool.and_self, Bool.and_true, xAh, xAb, xAe, xAa, xAa, xA2, List.length_map, xAC] <;> omega) | rfl | decide) only [xAI, List.length_cons, List.length_nil, Nat.zero_add, Nat.reduceAdd, Nat.reduceSub, xB8, List.cons_append, List.nil_append, xAo, xAf, xAc, xAk, xBn, AV.cells, opv, List.getD_cons_zero, List.all_cons, AV.isCell, List.all_nil, Bool.and_self, ↓reduceIte, xAp, List.set_cons_succ, List.set_cons_zero, xAi, xAE, xAg, xAj, xAd, xAP, List.getD_cons_succ, xA5, List.getElem?_cons_zero, xAz, List.drop_zero, List.take_succ_cons, List.take_nil, xBs, xAl, xBi, List.map_cons, List.map_nil, xAZ, xBI, List.mapM_cons, xBQ, xAW, xBE, List.mapM_nil, Option.pure_def, Option.bind_eq_bind, Option.bind_some, Option.map_some, xAY, h1, xAX, xCZ, xBU, xAH, xA8, he, decide_false, Bool.not_false, xAq, xAn, xAO, xBa, xAx, xCH, xCG, xAU, xCF, xC5, xAr, xAt, xDS]

end Go.Abs.Det
