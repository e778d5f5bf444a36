/- Values over the caller's own blocks: what they stand for, and that other blocks do not matter. -/
import Derived.Test.YtdkbhidfiplncaaAbsEnc2
import Derived.Test.YtdkbhidfiplncaaAProg
namespace Go.Abs.Det
open Go Go.Abs
set_option linter.unusedSimpArgs false
set_option linter.unusedVariables false

theorem xKb {α β : Type} {f g : α → Option β} : ∀ {l : List α}, (∀ a ∈ l, f a = g a) → l.mapM f = l.mapM g
  | [], _ => rfl
  | a :: l, h => by
    rw [List.mapM_cons, List.mapM_cons, h a (by simp), xKb (fun b hb => h b (by simp [hb]))]

theorem xDf {G G' : xAu} : ∀ (d : Nat) (v : AV), (∀ b ∈ bor d G v, G'[b]? = G[b]?) → frz d G' v = frz d G v ∧ bor d G' v = bor d G v := by
  intro d
  induction d with
  | zero =>
    intro v h
    cases v <;> first | exact ⟨rfl, rfl⟩ | (rename_i f caps; cases caps <;> exact ⟨rfl, rfl⟩)
  | succ d ih =>
    intro v h
    have many : ∀ cs : List AV, (∀ b ∈ cs.flatMap (bor d G), G'[b]? = G[b]?) → cs.mapM (frz d G') = cs.mapM (frz d G) ∧ cs.flatMap (bor d G') = cs.flatMap (bor d G) := by
      intro cs hcs
      refine ⟨xKb fun a ha => (ih a fun b hb => hcs b (List.mem_flatMap.2 ⟨a, ha, hb⟩)).1, ?_⟩
      induction cs with
      | nil => rfl
      | cons c cs ih2 =>
        simp only [List.flatMap_cons] at hcs ⊢
        rw [(ih c fun b hb => hcs b (List.mem_append.2 (.inl hb))).2, ih2 fun b hb => hcs b (List.mem_append.2 (.inr hb))]
    cases v
    case own z id off n es =>
      have h0 := h id (by simp [bor])
      simp only [frz, bor, h0]
      cases hG : G[id]? with
      | none => simp
      | some bk =>
        cases bk with
        | dead => simp
        | mp es => simp
        | loop => simp
        | cells fz z' cs =>
          obtain ⟨m1, m2⟩ := many ((cs.drop off).take (n * es)) (fun b hb => h b (by simp only [bor, hG]; exact List.mem_cons_of_mem _ hb))
          simp [m1, m2]
    case ptr id off =>
      have h0 := h id (by simp [bor])
      simp only [frz, bor, h0]
      cases hG : G[id]? with
      | none => simp
      | some bk =>
        cases bk with
        | dead => simp
        | mp es => simp
        | loop => simp
        | cells fz z' cs =>
          obtain ⟨m1, m2⟩ := many cs (fun b hb => h b (by simp only [bor, hG]; exact List.mem_cons_of_mem _ hb))
          simp [m1, m2]
    case agg cs =>
      obtain ⟨m1, m2⟩ := many cs h
      simp [frz, bor, m1, m2]
    case tup cs =>
      obtain ⟨m1, m2⟩ := many cs h
      simp [frz, bor, m1, m2]
    case func f caps => cases caps <;> exact ⟨rfl, rfl⟩
    all_goals exact ⟨rfl, rfl⟩

def Fz (k : Nat) (G : xAu) (B : Nat) (v t : AV) : Prop := ∀ d, k ≤ d → frz d G v = some t ∧ ∀ b ∈ bor d G v, B ≤ b ∧ b < G.length

theorem Fz.frame {k B : Nat} {G G' : xAu} {v t : AV} (h : Fz k G B v t) (hl : G.length ≤ G'.length) (he : ∀ d, k ≤ d → ∀ b ∈ bor d G v, G'[b]? = G[b]?) : Fz k G' B v t := by
  intro d hd
  obtain ⟨h1, h2⟩ := h d hd
  obtain ⟨f1, f2⟩ := xDf d v (he d hd)
  exact ⟨f1.trans h1, fun b hb => by rw [f2] at hb; have := h2 b hb; omega⟩
theorem Fz.grow {k B : Nat} {G G' : xAu} {v t : AV} (h : Fz k G B v t) (hl : G.length ≤ G'.length) (he : ∀ b, B ≤ b → b < G.length → G'[b]? = G[b]?) : Fz k G' B v t :=
  h.frame hl fun d hd b hb => by have := (h d hd).2 b hb; exact he b this.1 this.2
theorem Fz.low {k B B' : Nat} {G : xAu} {v t : AV} (h : Fz k G B v t) (hb : B' ≤ B) : Fz k G B' v t :=
  fun d hd => ⟨(h d hd).1, fun b hb' => by have := (h d hd).2 b hb'; omega⟩

theorem Fz.data {G : xAu} {B : Nat} {v : AV} (h : xCB v = true) : Fz 0 G B v v := by
  intro d _
  cases v <;> simp [xCB] at h
  case func f caps =>
    cases caps with
    | nil => exact ⟨by cases d <;> rfl, fun b hb => by cases d <;> simp [bor] at hb⟩
    | cons => simp at h
  all_goals exact ⟨by cases d <;> rfl, fun b hb => by cases d <;> simp [bor] at hb⟩

theorem Fz.row {G : xAu} {B id es n : Nat} {cs : List AV} (hG : G[id]? = some (.cells false false cs)) (hd : cs.all xCB = true) (hn : cs.length = n * es) (hB : B ≤ id) : Fz 1 G B (.own false id 0 n es) (.sl false n cs) := by
  intro d hd1
  have hlt := (List.getElem?_eq_some_iff.1 hG).1
  obtain ⟨d, rfl⟩ : ∃ e, d = e + 1 := ⟨d - 1, by omega⟩
  have all : ∀ cs : List AV, cs.all xCB = true → cs.mapM (frz d G) = some cs ∧ cs.flatMap (bor d G) = [] := by
    intro cs h
    induction cs with
    | nil => exact ⟨rfl, rfl⟩
    | cons c cs ih =>
      simp only [List.all_cons, Bool.and_eq_true] at h
      obtain ⟨i1, i2⟩ := ih h.2
      obtain ⟨f1, f2⟩ := Fz.data (G := G) (B := G.length) h.1 d (Nat.zero_le _)
      have f3 : bor d G c = [] := by
        cases e : bor d G c with
        | nil => rfl
        | cons b l => have := f2 b (by rw [e]; simp); omega
      simp [List.mapM_cons, f1, i1, i2, f3]
  obtain ⟨a1, a2⟩ := all cs hd
  have htk : (cs.drop 0).take (n * es) = cs := by rw [List.drop_zero, List.take_of_length_le (by omega)]
  refine ⟨?_, fun b hb => ?_⟩
  · simp only [frz, hG, htk, a1]
    rw [if_pos (by omega)]
    rfl
  · simp only [bor, hG, htk, a2, List.mem_singleton] at hb
    subst hb
    exact ⟨hB, hlt⟩

theorem xHE {α β : Type} {f : α → Option β} : ∀ {l : List α} {r : List β}, l.length = r.length → (∀ (i : Nat) (a : α) (b : β), l[i]? = some a → r[i]? = some b → f a = some b) → l.mapM f = some r
  | [], [], _, _ => rfl
  | [], _ :: _, h, _ => by simp at h
  | _ :: _, [], h, _ => by simp at h
  | a :: l, b :: r, h, hf => by
    have h0 := hf 0 a b rfl rfl
    have ih := xHE (f := f) (l := l) (r := r) (by simpa using h) (fun i x y h1 h2 => hf (i + 1) x y (by simpa using h1) (by simpa using h2))
    simp [List.mapM_cons, h0, ih]

def Grow (k : Nat) (G : xAu) (B : Nat) (v : AV) (ts : List AV) : Prop :=
  (ts = [] ∧ v = .sl true 0 []) ∨ ∃ id cs, v = .own false id 0 ts.length 1 ∧ G[id]? = some (.cells false false cs) ∧ B ≤ id ∧ cs.length = ts.length ∧
    ∀ (i : Nat) (c t : AV), cs[i]? = some c → ts[i]? = some t → Fz k G B c t ∧ ∀ d, k ≤ d → id ∉ bor d G c

theorem Grow.grow {k B : Nat} {G G' : xAu} {v : AV} {ts : List AV} (h : Grow k G B v ts) (hl : G.length ≤ G'.length) (he : ∀ b, B ≤ b → b < G.length → G'[b]? = G[b]?) : Grow k G' B v ts := by
  rcases h with h | ⟨id, cs, h1, h2, h3, h4, h5⟩
  · exact .inl h
  · have hlt := (List.getElem?_eq_some_iff.1 h2).1
    refine .inr ⟨id, cs, h1, by rw [he id h3 hlt]; exact h2, h3, h4, fun i c t hc ht => ?_⟩
    obtain ⟨g1, g2⟩ := h5 i c t hc ht
    refine ⟨g1.grow hl he, fun d hd hm => g2 d hd ?_⟩
    rw [(xDf d c (fun b hb => by have := (g1 d hd).2 b hb; exact he b this.1 this.2)).2] at hm
    exact hm

theorem Grow.fz {k B : Nat} {G : xAu} {v : AV} {ts : List AV} (h : Grow k G B v ts) : Fz (k + 1) G B v (.sl (ts.length == 0) ts.length ts) ∨ ts = [] := by
  rcases h with ⟨rfl, rfl⟩ | ⟨id, cs, rfl, h2, h3, h4, h5⟩
  · exact .inr rfl
  · by_cases h0 : ts = []
    · exact .inr h0
    left
    have hz : (ts.length == 0) = false := by
      cases ts with
      | nil => exact absurd rfl h0
      | cons => rfl
    rw [hz]
    intro d hd
    have hlt := (List.getElem?_eq_some_iff.1 h2).1
    obtain ⟨d, rfl⟩ : ∃ e, d = e + 1 := ⟨d - 1, by omega⟩
    have htk : (cs.drop 0).take (ts.length * 1) = cs := by rw [List.drop_zero, List.take_of_length_le (by omega)]
    have hm := xHE (f := frz d G) h4 (fun i a b ha hb => ((h5 i a b ha hb).1 d (by omega)).1)
    refine ⟨?_, fun b hb => ?_⟩
    · simp only [frz, h2, htk, hm]
      rw [if_pos (by omega)]
      rfl
    · simp only [bor, h2, htk, List.mem_cons, List.mem_flatMap] at hb
      rcases hb with rfl | ⟨c, hc, hb⟩
      · exact ⟨h3, hlt⟩
      · obtain ⟨i, hi, e⟩ := List.mem_iff_getElem.1 hc
        have hc' : cs[i]? = some c := by rw [List.getElem?_eq_getElem hi, e]
        exact ((h5 i c _ hc' (List.getElem?_eq_getElem (by omega))).1 d (by omega)).2 b hb

theorem Grow.first {k B : Nat} {G : xAu} {c t : AV} (hc : Fz k G B c t) (hB : B ≤ G.length) : Grow k (G ++ [.cells false false [c]]) B (.own false G.length 0 1 1) [t] := by
  refine .inr ⟨G.length, [c], rfl, by simp, hB, rfl, fun i a b ha hb => ?_⟩
  have e : i = 0 := by
    cases i with
    | zero => rfl
    | succ i => simp at ha
  subst e
  simp at ha hb
  subst ha; subst hb
  have hext : ∀ b, b < G.length → (G ++ [Blk.cells false false [c]])[b]? = G[b]? := fun b hb => List.getElem?_append_left hb
  refine ⟨hc.grow (by simp) (fun b _ hb => hext b hb), fun d hd hm => ?_⟩
  rw [(xDf d c (fun b hb => hext b ((hc d hd).2 b hb).2)).2] at hm
  have := (hc d hd).2 _ hm
  omega

theorem Grow.push {k B id : Nat} {G : xAu} {ts cs : List AV} {c t : AV} (h2 : G[id]? = some (.cells false false cs)) (h3 : B ≤ id) (h4 : cs.length = ts.length)
    (h5 : ∀ (i : Nat) (c t : AV), cs[i]? = some c → ts[i]? = some t → Fz k G B c t ∧ ∀ d, k ≤ d → id ∉ bor d G c) (hc : Fz k G B c t) (hn : ∀ d, k ≤ d → id ∉ bor d G c) :
    Grow k (G.set id .dead ++ [.cells false false (cs ++ [c])]) B (.own false G.length 0 (ts.length + 1) 1) (ts ++ [t]) := by
  have hlt := (List.getElem?_eq_some_iff.1 h2).1
  refine .inr ⟨G.length, cs ++ [c], by simp, by rw [List.getElem?_append_right (by simp)]; simp, by omega, by simp [h4], fun i a b ha hb => ?_⟩
  have key : Fz k G B a b ∧ ∀ d, k ≤ d → id ∉ bor d G a := by
    by_cases hi : i < cs.length
    · rw [List.getElem?_append_left hi] at ha
      rw [List.getElem?_append_left (by omega)] at hb
      exact h5 i a b ha hb
    · rw [List.getElem?_append_right (by omega)] at ha
      rw [List.getElem?_append_right (by omega)] at hb
      have e : i - cs.length = 0 := by
        cases e : i - cs.length with
        | zero => rfl
        | succ j => rw [e] at ha; simp at ha
      rw [e] at ha
      rw [← h4, e] at hb
      simp at ha hb
      subst ha; subst hb
      exact ⟨hc, hn⟩
  obtain ⟨f1, f2⟩ := key
  have hext : ∀ d, k ≤ d → ∀ b ∈ bor d G a, (G.set id .dead ++ [Blk.cells false false (cs ++ [c])])[b]? = G[b]? := fun d hd b hb => by
    have := ((f1 d hd).2 b hb).2
    have hne : id ≠ b := by rintro rfl; exact f2 d hd hb
    rw [List.getElem?_append_left (by simpa using this), List.getElem?_set_ne hne]
  refine ⟨f1.frame (by simp) hext, fun d hd hm => ?_⟩
  rw [(xDf d a (hext d hd)).2] at hm
  have := ((f1 d hd).2 _ hm).2
  omega

end Go.Abs.Det

/- Trees: end, formed, Check. -/
namespace Go.Abs.Det
open Go Go.Abs
set_option linter.unusedSimpArgs false
set_option linter.unusedVariables false

noncomputable abbrev L : Rec := lim xAF

abbrev iw (z : Bool) (l : List Int) : AV := .sl z l.length (xCh l)
theorem xGR {l : List Int} {i : Nat} (h : i < l.length) : l.drop i = l.getD i 0 :: l.drop (i + 1) := by
  rw [List.drop_eq_getElem_cons h]
  simp [List.getD, List.getElem?_eq_getElem h]
theorem xA9 {G X : xAu} {b : Nat} {x : Blk} (h : G[b]? = some x) : (G ++ X)[b]? = some x := by
  rw [List.getElem?_append_left (List.getElem?_eq_some_iff.1 h).1]; exact h
theorem xUb {α : Type} (k : Nat) (l : List α) : List.take (l.take k).length l = l.take k := by
  rw [List.length_take]
  rcases Nat.le_total k l.length with h | h
  · rw [Nat.min_eq_left h]
  · rw [Nat.min_eq_right h, List.take_of_length_le h, List.take_of_length_le (Nat.le_refl _)]

structure Lf where
  x : Nat
  l : Int
  r : Int
def f0 : Lf := ⟨0, 0, 0⟩
def xNQ (e : Lf) : List AV := [.int .u8 (e.x : Nat), .int .i64 e.l, .int .i64 e.r]
def lfs (l : List Lf) : List AV := rows xNQ l
abbrev tw (z : Bool) (t : List Lf) : AV := .sl z t.length (lfs t)
theorem xAP (l : List Lf) : (lfs l).length = l.length * 3 := xJc (enc := xNQ) (k := 3) (fun _ => rfl) l
theorem xHV {l : List Lf} {i : Nat} (h : i < l.length) : List.drop (i * 3) (lfs l) = xNQ (l.getD i f0) ++ lfs (l.drop (i + 1)) := by
  unfold lfs
  rw [xJd (enc := xNQ) (k := 3) (fun _ => rfl), List.drop_eq_getElem_cons h]
  have : l.getD i f0 = l[i] := by simp [List.getD, List.getElem?_eq_getElem h]
  rw [this]
  rfl
theorem xI3 {l : List Lf} {i : Nat} (h : i < l.length) : List.take 3 (List.drop (i * 3) (lfs l)) = [.int .u8 ((l.getD i f0).x : Nat), .int .i64 (l.getD i f0).l, .int .i64 (l.getD i f0).r] := by
  rw [xHV h]; rfl
theorem xNR {l : List Lf} {i : Nat} (h : i < l.length) : List.take 1 (List.drop (i * 3 + 1) (lfs l)) = [.int .i64 (l.getD i f0).l] := by
  rw [← List.drop_drop, xHV h]; rfl
theorem xNS {l : List Lf} {i : Nat} (h : i < l.length) : List.take 1 (List.drop (i * 3 + 2) (lfs l)) = [.int .i64 (l.getD i f0).r] := by
  rw [← List.drop_drop, xHV h]; rfl
theorem xMU {l : List Lf} {i : Nat} (h : i < l.length) : l.drop i = l.getD i f0 :: l.drop (i + 1) := by
  rw [List.drop_eq_getElem_cons h]
  simp [List.getD, List.getElem?_eq_getElem h]
theorem xKP {l : List Lf} {i : Nat} (h : i < l.length) : l.getD i f0 ∈ l := by
  rw [List.getD_eq_getElem?_getD, List.getElem?_eq_getElem h]
  exact List.getElem_mem _

inductive BT
  | nil
  | node (x : Nat) (l r : BT)

inductive Sub (t : List Lf) : Int → Nat → BT → Nat → Prop
  | none (m : Nat) : Sub t (-1) m .nil m
  | some {m k n : Nat} {l r : BT} (hm : m < t.length) (hl : Sub t (t.getD m f0).l (m + 1) l k) (hr : Sub t (t.getD m f0).r k r n) : Sub t (m : Int) m (.node (t.getD m f0).x l r) n

noncomputable abbrev LP (z : Bool) (t : List Lf) (H : xAu) (l r : Int) (s4 : AV) (next j : Int) := L.loop xIm xOR ⟨xIn (tw z t) s4 (.int .i64 next) (.agg [.int .i64 l, .int .i64 r]) (.int .i64 j), H⟩
abbrev LQ (z : Bool) (t : List Lf) (H : xAu) (l r : Int) (s4 : AV) (next j : Int) : St := ⟨xIn (tw z t) s4 (.int .i64 next) (.agg [.int .i64 l, .int .i64 r]) (.int .i64 j), H⟩

section
variable {z : Bool} {t : List Lf} {H : xAu} {l r : Int} {s4 : AV}
theorem yC8 (next : Int) : LP z t H l r s4 next 2 = some (.exit 0, LQ z t H l r s4 next 2) := by
  unfold LP
  rw [xG1]
  simp (maxSteps := 30000000) (disch := first | assumption | omega | (simp only [List.length_cons, List.length_nil, List.length_append, List.length_set, List.length_replicate, List.length_map, List.length_range, List.length_take, List.length_drop, List.all_cons, List.all_nil, AV.isCell, Bool.and_self, Bool.and_true, xAh, xAb, xAe, xAa, xAP] <;> omega) | rfl | decide) only [xDA, Int.reduceNeg, xAp, xAf, xAc, xAk, xAy, opv, List.getD_cons_succ, List.getD_cons_zero, xAz, Int.lt_irrefl, decide_false, xAl, xAq, List.set_cons_succ, List.set_cons_zero, xAi, xAg, xAj, xAd, xAo, xAn, Bool.false_eq_true, ↓reduceIte, xBt, xBc, xA3, xDB]
theorem yB0 (next : Int) {c j : Int} (hj : j = 0 ∧ c = l ∨ j = 1 ∧ c = r) (hc : c = -1) : LP z t H l r s4 next j = LP z t H l r s4 next (j + 1) := by
  unfold LP
  rcases hj with ⟨rfl, rfl⟩ | ⟨rfl, rfl⟩
  · rw [xG1]
    simp (maxSteps := 30000000) (disch := first | assumption | omega | (simp only [List.length_cons, List.length_nil, List.length_append, List.length_set, List.length_replicate, List.length_map, List.length_range, List.length_take, List.length_drop, List.all_cons, List.all_nil, AV.isCell, Bool.and_self, Bool.and_true, xAh, xAb, xAe, xAa, xAP] <;> omega) | rfl | decide) only [xDA, Int.reduceNeg, hc, xAp, xAf, xAc, xAk, xAy, opv, List.getD_cons_succ, List.getD_cons_zero, xAz, Int.reduceLT, decide_true, xAl, xAq, List.set_cons_succ, List.set_cons_zero, xAi, xAg, xAj, xAd, xAo, xAn, ↓reduceIte, xAx, xAr, xDs, xCp, Int.toNat_zero, Nat.mul_one, List.drop_zero, List.take_succ_cons, List.take_zero, xGg, xAA, xBM, xBt, xAS, Nat.reduceEqDiff, xBc, xBa, Int.zero_add, xCV, xAv, xDB]
  · rw [xG1]
    simp (maxSteps := 30000000) (disch := first | assumption | omega | (simp only [List.length_cons, List.length_nil, List.length_append, List.length_set, List.length_replicate, List.length_map, List.length_range, List.length_take, List.length_drop, List.all_cons, List.all_nil, AV.isCell, Bool.and_self, Bool.and_true, xAh, xAb, xAe, xAa, xAP] <;> omega) | rfl | decide) only [xDA, Int.reduceNeg, hc, xAp, xAf, xAc, xAk, xAy, opv, List.getD_cons_succ, List.getD_cons_zero, xAz, Int.reduceLT, decide_true, xAl, xAq, List.set_cons_succ, List.set_cons_zero, xAi, xAg, xAj, xAd, xAo, xAn, ↓reduceIte, xAx, xAr, xDs, xCp, Int.toNat_one, Nat.mul_one, List.drop_succ_cons, List.drop_zero, List.take_succ_cons, List.take_nil, xGg, xAA, xBM, xBt, xAS, Nat.reduceEqDiff, xBc, xBa, Int.reduceAdd, xCV, xAv, xDB]
theorem yEo (next : Nat) {c j : Int} (hj : j = 0 ∧ c = l ∨ j = 1 ∧ c = r) (hc : c ≠ -1) (hb : c ≠ (next : Int) ∨ t.length ≤ next) : LP z t H l r s4 (next : Nat) j = some (.ret, LQ z t H l r (.int .i64 (-1)) (next : Nat) j) := by
  unfold LP
  rcases hj with ⟨rfl, rfl⟩ | ⟨rfl, rfl⟩ <;> rw [xG1] <;> by_cases h1 : c = (next : Int)
  · have h2 : ((t.length : Nat) : Int) ≤ (next : Nat) := by omega
    have h3 : ¬ ((next : Nat) : Int) = -1 := by omega
    simp (maxSteps := 30000000) (disch := first | assumption | omega | (simp only [List.length_cons, List.length_nil, List.length_append, List.length_set, List.length_replicate, List.length_map, List.length_range, List.length_take, List.length_drop, List.all_cons, List.all_nil, AV.isCell, Bool.and_self, Bool.and_true, xAh, xAb, xAe, xAa, xAP] <;> omega) | rfl | decide) only [xDA, Int.reduceNeg, h1, xAp, xAf, xAc, xAk, xAy, opv, List.getD_cons_succ, List.getD_cons_zero, xAz, Int.reduceLT, decide_true, xAl, xAq, List.set_cons_succ, List.set_cons_zero, xAi, xAg, xAj, xAd, xAo, xAn, ↓reduceIte, xAx, xAr, xDs, xCp, Int.toNat_zero, Nat.mul_one, List.drop_zero, List.take_succ_cons, List.take_zero, xGg, xAA, xBM, h3, decide_false, Bool.false_eq_true, xBm, Bool.not_true, xAM, xAD, xBk, xA8, xCz, h2, xBb, xAN, xAW, xBs, xBu, xCs, xDB]
  · simp (maxSteps := 30000000) (disch := first | assumption | omega | (simp only [List.length_cons, List.length_nil, List.length_append, List.length_set, List.length_replicate, List.length_map, List.length_range, List.length_take, List.length_drop, List.all_cons, List.all_nil, AV.isCell, Bool.and_self, Bool.and_true, xAh, xAb, xAe, xAa, xAP] <;> omega) | rfl | decide) only [xDA, Int.reduceNeg, xAp, xAf, xAc, xAk, xAy, opv, List.getD_cons_succ, List.getD_cons_zero, xAz, Int.reduceLT, decide_true, xAl, xAq, List.set_cons_succ, List.set_cons_zero, xAi, xAg, xAj, xAd, xAo, xAn, ↓reduceIte, xAx, xAr, xDs, xCp, Int.toNat_zero, Nat.mul_one, List.drop_zero, List.take_succ_cons, List.take_zero, xGg, xAA, xBM, hc, decide_false, Bool.false_eq_true, xBm, h1, Bool.not_false, xAM, xAD, Bool.true_eq_false, xCy, xBb, xAN, xAW, xBs, xBu, xCs, xDB]
  · have h2 : ((t.length : Nat) : Int) ≤ (next : Nat) := by omega
    have h3 : ¬ ((next : Nat) : Int) = -1 := by omega
    simp (maxSteps := 30000000) (disch := first | assumption | omega | (simp only [List.length_cons, List.length_nil, List.length_append, List.length_set, List.length_replicate, List.length_map, List.length_range, List.length_take, List.length_drop, List.all_cons, List.all_nil, AV.isCell, Bool.and_self, Bool.and_true, xAh, xAb, xAe, xAa, xAP] <;> omega) | rfl | decide) only [xDA, Int.reduceNeg, h1, xAp, xAf, xAc, xAk, xAy, opv, List.getD_cons_succ, List.getD_cons_zero, xAz, Int.reduceLT, decide_true, xAl, xAq, List.set_cons_succ, List.set_cons_zero, xAi, xAg, xAj, xAd, xAo, xAn, ↓reduceIte, xAx, xAr, xDs, xCp, Int.toNat_one, Nat.mul_one, List.drop_succ_cons, List.drop_zero, List.take_succ_cons, List.take_nil, xGg, xAA, xBM, h3, decide_false, Bool.false_eq_true, xBm, Bool.not_true, xAM, xAD, xBk, xA8, xCz, h2, xBb, xAN, xAW, xBs, xBu, xCs, xDB]
  · simp (maxSteps := 30000000) (disch := first | assumption | omega | (simp only [List.length_cons, List.length_nil, List.length_append, List.length_set, List.length_replicate, List.length_map, List.length_range, List.length_take, List.length_drop, List.all_cons, List.all_nil, AV.isCell, Bool.and_self, Bool.and_true, xAh, xAb, xAe, xAa, xAP] <;> omega) | rfl | decide) only [xDA, Int.reduceNeg, xAp, xAf, xAc, xAk, xAy, opv, List.getD_cons_succ, List.getD_cons_zero, xAz, Int.reduceLT, decide_true, xAl, xAq, List.set_cons_succ, List.set_cons_zero, xAi, xAg, xAj, xAd, xAo, xAn, ↓reduceIte, xAx, xAr, xDs, xCp, Int.toNat_one, Nat.mul_one, List.drop_succ_cons, List.drop_zero, List.take_succ_cons, List.take_nil, xGg, xAA, xBM, hc, decide_false, Bool.false_eq_true, xBm, h1, Bool.not_false, xAM, xAD, Bool.true_eq_false, xCy, xBb, xAN, xAW, xBs, xBu, xCs, xDB]
theorem yEp (next : Nat) {c j : Int} (hj : j = 0 ∧ c = l ∨ j = 1 ∧ c = r) (hb : c = (next : Int)) (hn : next < t.length) (hq : L.pcall 114 [tw z t, .int .i64 (next : Nat)] = some (.int .i64 (-1))) : LP z t H l r s4 (next : Nat) j = some (.ret, LQ z t H l r (.int .i64 (-1)) (-1) j) := by
  have h2 : ¬ ((t.length : Nat) : Int) ≤ (next : Nat) := by omega
  have h3 : ¬ ((next : Nat) : Int) = -1 := by omega
  subst hb
  unfold LP
  rcases hj with ⟨rfl, rfl⟩ | ⟨rfl, rfl⟩ <;> rw [xG1]
  · simp (maxSteps := 30000000) (disch := first | assumption | omega | (simp only [List.length_cons, List.length_nil, List.length_append, List.length_set, List.length_replicate, List.length_map, List.length_range, List.length_take, List.length_drop, List.all_cons, List.all_nil, AV.isCell, Bool.and_self, Bool.and_true, xAh, xAb, xAe, xAa, xAP] <;> omega) | rfl | decide) only [xDA, Int.reduceNeg, xAp, xAf, xAc, xAk, xAy, opv, List.getD_cons_succ, List.getD_cons_zero, xAz, Int.reduceLT, decide_true, xAl, xAq, List.set_cons_succ, List.set_cons_zero, xAi, xAg, xAj, xAd, xAo, xAn, ↓reduceIte, xAx, xAr, xDs, xCp, Int.toNat_zero, Nat.mul_one, List.drop_zero, List.take_succ_cons, List.take_zero, xGg, xAA, xBM, h3, decide_false, Bool.false_eq_true, xBm, Bool.not_true, xAM, xAD, xBk, xA8, xCz, h2, xBb, xAN, xAs, xBJ, List.map_cons, List.map_nil, xBi, xBL, List.mapM_cons, xCa, xA0, List.mapM_nil, Option.pure_def, Option.bind_eq_bind, Option.bind_some, xBh, hq, xBg, xDT, xCw, xAW, xBs, xBu, xCs, xDB]
  · simp (maxSteps := 30000000) (disch := first | assumption | omega | (simp only [List.length_cons, List.length_nil, List.length_append, List.length_set, List.length_replicate, List.length_map, List.length_range, List.length_take, List.length_drop, List.all_cons, List.all_nil, AV.isCell, Bool.and_self, Bool.and_true, xAh, xAb, xAe, xAa, xAP] <;> omega) | rfl | decide) only [xDA, Int.reduceNeg, xAp, xAf, xAc, xAk, xAy, opv, List.getD_cons_succ, List.getD_cons_zero, xAz, Int.reduceLT, decide_true, xAl, xAq, List.set_cons_succ, List.set_cons_zero, xAi, xAg, xAj, xAd, xAo, xAn, ↓reduceIte, xAx, xAr, xDs, xCp, Int.toNat_one, Nat.mul_one, List.drop_succ_cons, List.drop_zero, List.take_succ_cons, List.take_nil, xGg, xAA, xBM, h3, decide_false, Bool.false_eq_true, xBm, Bool.not_true, xAM, xAD, xBk, xA8, xCz, h2, xBb, xAN, xAs, xBJ, List.map_cons, List.map_nil, xBi, xBL, List.mapM_cons, xCa, xA0, List.mapM_nil, Option.pure_def, Option.bind_eq_bind, Option.bind_some, xBh, hq, xBg, xDT, xCw, xAW, xBs, xBu, xCs, xDB]
theorem yB1 (next m : Nat) {c j : Int} (hj : j = 0 ∧ c = l ∨ j = 1 ∧ c = r) (hb : c = (next : Int)) (hn : next < t.length) (hq : L.pcall 114 [tw z t, .int .i64 (next : Nat)] = some (.int .i64 (m : Nat))) : LP z t H l r s4 (next : Nat) j = LP z t H l r s4 (m : Nat) (j + 1) := by
  have h2 : ¬ ((t.length : Nat) : Int) ≤ (next : Nat) := by omega
  have h3 : ¬ ((next : Nat) : Int) = -1 := by omega
  have h4 : ¬ ((m : Nat) : Int) = -1 := by omega
  subst hb
  unfold LP
  rcases hj with ⟨rfl, rfl⟩ | ⟨rfl, rfl⟩ <;> rw [xG1]
  · simp (maxSteps := 30000000) (disch := first | assumption | omega | (simp only [List.length_cons, List.length_nil, List.length_append, List.length_set, List.length_replicate, List.length_map, List.length_range, List.length_take, List.length_drop, List.all_cons, List.all_nil, AV.isCell, Bool.and_self, Bool.and_true, xAh, xAb, xAe, xAa, xAP] <;> omega) | rfl | decide) only [xDA, Int.reduceNeg, xAp, xAf, xAc, xAk, xAy, opv, List.getD_cons_succ, List.getD_cons_zero, xAz, Int.reduceLT, decide_true, xAl, xAq, List.set_cons_succ, List.set_cons_zero, xAi, xAg, xAj, xAd, xAo, xAn, ↓reduceIte, xAx, xAr, xDs, xCp, Int.toNat_zero, Nat.mul_one, List.drop_zero, List.take_succ_cons, List.take_zero, xGg, xAA, xBM, h3, decide_false, Bool.false_eq_true, xBm, Bool.not_true, xAM, xAD, xBk, xA8, xCz, h2, xBb, xAN, xAs, xBJ, List.map_cons, List.map_nil, xBi, xBL, List.mapM_cons, xCa, xA0, List.mapM_nil, Option.pure_def, Option.bind_eq_bind, Option.bind_some, xBh, hq, xBg, xDT, xCw, h4, xBa, Int.zero_add, xCV, xAv, xDB]
  · simp (maxSteps := 30000000) (disch := first | assumption | omega | (simp only [List.length_cons, List.length_nil, List.length_append, List.length_set, List.length_replicate, List.length_map, List.length_range, List.length_take, List.length_drop, List.all_cons, List.all_nil, AV.isCell, Bool.and_self, Bool.and_true, xAh, xAb, xAe, xAa, xAP] <;> omega) | rfl | decide) only [xDA, Int.reduceNeg, xAp, xAf, xAc, xAk, xAy, opv, List.getD_cons_succ, List.getD_cons_zero, xAz, Int.reduceLT, decide_true, xAl, xAq, List.set_cons_succ, List.set_cons_zero, xAi, xAg, xAj, xAd, xAo, xAn, ↓reduceIte, xAx, xAr, xDs, xCp, Int.toNat_one, Nat.mul_one, List.drop_succ_cons, List.drop_zero, List.take_succ_cons, List.take_nil, xGg, xAA, xBM, h3, decide_false, Bool.false_eq_true, xBm, Bool.not_true, xAM, xAD, xBk, xA8, xCz, h2, xBb, xAN, xAs, xBJ, List.map_cons, List.map_nil, xBi, xBL, List.mapM_cons, xCa, xA0, List.mapM_nil, Option.pure_def, Option.bind_eq_bind, Option.bind_some, xBh, hq, xBg, xDT, xCw, h4, xBa, Int.reduceAdd, xCV, xAv, xDB]
end

theorem xKQ {z : Bool} {t : List Lf} {i n : Nat} (ht : t.length < 1099511627776) (hi : i < t.length) (h : LP z t [] (t.getD i f0).l (t.getD i f0).r (.int .i64 0) ((i + 1 : Nat) : Int) 0 = some (.exit 0, LQ z t [] (t.getD i f0).l (t.getD i f0).r (.int .i64 0) (n : Nat) 2)) :
    L.pcall 114 [tw z t, .int .i64 (i : Nat)] = some (.int .i64 (n : Nat)) := by
  unfold LP LQ at h
  rw [xZn, xZi, xA7]
  simp (maxSteps := 30000000) (disch := first | assumption | omega | (simp only [List.length_cons, List.length_nil, List.length_append, List.length_set, List.length_replicate, List.length_map, List.length_range, List.length_take, List.length_drop, List.all_cons, List.all_nil, AV.isCell, Bool.and_self, Bool.and_true, xAh, xAb, xAe, xAa, xAP] <;> omega) | rfl | decide) only [xAU, List.length_cons, List.length_nil, Nat.zero_add, Nat.reduceAdd, Nat.reduceSub, xCL, List.cons_append, List.nil_append, xAp, xAf, xAc, xAk, xAA, opv, xAq, List.set_cons_succ, List.set_cons_zero, xAi, xAg, xAj, xAd, List.getD_cons_succ, List.getD_cons_zero, xAy, xBa, xCi, xCV, xAl, xBI, List.take_succ_cons, List.take_nil, xA5, xBf, xCx, xBq, xBC, xBo, xCg, xAZ, xAY, Int.toNat_natCast, xBY, xAV, xEN, xBR, xAJ, xBj, xNR, xAO, xNS, xOV, xCv, AV.cells, List.all_cons, beq_self_eq_true, List.all_nil, Bool.and_self, ↓reduceIte, List.map_cons, List.map_nil, xCd, Nat.reduceLeDiff, AV.isCell, and_self, xBd, List.take_zero, List.drop_succ_cons, List.drop_zero, Nat.le_refl, List.drop_nil, List.append_nil, Option.map_some, xBe, xBn, xCt, xBy, xAr, xA6, xDB, h, xAS, xAW, xAI, xAR, xA2, xAw, xAQ, xBL, xA0]
theorem xNT {z : Bool} {t : List Lf} {i : Nat} {n j : Int} (ht : t.length < 1099511627776) (hi : i < t.length) (h : LP z t [] (t.getD i f0).l (t.getD i f0).r (.int .i64 0) ((i + 1 : Nat) : Int) 0 = some (.ret, LQ z t [] (t.getD i f0).l (t.getD i f0).r (.int .i64 (-1)) n j)) :
    L.pcall 114 [tw z t, .int .i64 (i : Nat)] = some (.int .i64 (-1)) := by
  unfold LP LQ at h
  rw [xZn, xZi, xA7]
  simp (maxSteps := 30000000) (disch := first | assumption | omega | (simp only [List.length_cons, List.length_nil, List.length_append, List.length_set, List.length_replicate, List.length_map, List.length_range, List.length_take, List.length_drop, List.all_cons, List.all_nil, AV.isCell, Bool.and_self, Bool.and_true, xAh, xAb, xAe, xAa, xAP] <;> omega) | rfl | decide) only [xAU, List.length_cons, List.length_nil, Nat.zero_add, Nat.reduceAdd, Nat.reduceSub, xCL, List.cons_append, List.nil_append, xAp, xAf, xAc, xAk, xAA, opv, xAq, List.set_cons_succ, List.set_cons_zero, xAi, xAg, xAj, xAd, List.getD_cons_succ, List.getD_cons_zero, xAy, xBa, xCi, xCV, xAl, xBI, List.take_succ_cons, List.take_nil, xA5, xBf, xCx, xBq, xBC, xBo, xCg, xAZ, xAY, Int.toNat_natCast, xBY, xAV, xEN, xBR, xAJ, xBj, xNR, xAO, xNS, xOV, xCv, AV.cells, List.all_cons, beq_self_eq_true, List.all_nil, Bool.and_self, ↓reduceIte, List.map_cons, List.map_nil, xCd, Nat.reduceLeDiff, AV.isCell, and_self, xBd, List.take_zero, List.drop_succ_cons, List.drop_zero, Nat.le_refl, List.drop_nil, List.append_nil, Option.map_some, xBe, xBn, xCt, xBy, xAr, xA6, xDB, h, Int.reduceNeg, xBs, xBu, xAI, xAR, xA2, xAw, xAQ, xBL, xA0]

theorem xVQ {z : Bool} {t : List Lf} (ht : t.length < 1099511627776) : ∀ k i, i < t.length → t.length ≤ i + k →
    L.pcall 114 [tw z t, .int .i64 (i : Nat)] = some (.int .i64 (-1)) ∨ ∃ n T, L.pcall 114 [tw z t, .int .i64 (i : Nat)] = some (.int .i64 (n : Nat)) ∧ i < n ∧ n ≤ t.length ∧ Sub t (i : Int) i T n
  | 0, i, hi, hk => by omega
  | k + 1, i, hi, hk => by
    have ih := fun i' (h : i < i') (h2 : i' < t.length) => xVQ (z := z) ht k i' h2 (by omega)
    have first : (∃ n j, LP z t [] (t.getD i f0).l (t.getD i f0).r (.int .i64 0) ((i + 1 : Nat) : Int) 0 = some (.ret, LQ z t [] (t.getD i f0).l (t.getD i f0).r (.int .i64 (-1)) n j)) ∨
        ∃ m T, i < m ∧ m ≤ t.length ∧ Sub t (t.getD i f0).l (i + 1) T m ∧ LP z t [] (t.getD i f0).l (t.getD i f0).r (.int .i64 0) ((i + 1 : Nat) : Int) 0 = LP z t [] (t.getD i f0).l (t.getD i f0).r (.int .i64 0) (m : Nat) 1 := by
      by_cases c1 : (t.getD i f0).l = -1
      · exact .inr ⟨i + 1, .nil, by omega, by omega, c1 ▸ .none _, yB0 _ (.inl ⟨rfl, rfl⟩) c1⟩
      · by_cases c2 : (t.getD i f0).l ≠ ((i + 1 : Nat) : Int) ∨ t.length ≤ i + 1
        · exact .inl ⟨_, _, yEo (i + 1) (.inl ⟨rfl, rfl⟩) c1 c2⟩
        · have c3 : (t.getD i f0).l = ((i + 1 : Nat) : Int) := by omega
          rcases ih (i + 1) (by omega) (by omega) with q | ⟨m, T, q, q1, q2, q3⟩
          · exact .inl ⟨_, _, yEp (i + 1) (.inl ⟨rfl, rfl⟩) c3 (by omega) q⟩
          · exact .inr ⟨m, T, by omega, q2, c3 ▸ q3, yB1 (i + 1) m (.inl ⟨rfl, rfl⟩) c3 (by omega) q⟩
    rcases first with ⟨n, j, h⟩ | ⟨m, T, m1, m2, hT, h⟩
    · exact .inl (xNT ht hi h)
    · by_cases c1 : (t.getD i f0).r = -1
      · refine .inr ⟨m, .node (t.getD i f0).x T .nil, xKQ ht hi (by rw [h, yB0 _ (.inr ⟨rfl, rfl⟩) c1]; exact yC8 _), m1, m2, .some hi hT (c1 ▸ .none _)⟩
      · by_cases c2 : (t.getD i f0).r ≠ (m : Int) ∨ t.length ≤ m
        · exact .inl (xNT ht hi (h.trans (yEo m (.inr ⟨rfl, rfl⟩) c1 c2)))
        · have c3 : (t.getD i f0).r = (m : Int) := by omega
          rcases ih m m1 (by omega) with q | ⟨n, T', q, q1, q2, q3⟩
          · exact .inl (xNT ht hi (h.trans (yEp m (.inr ⟨rfl, rfl⟩) c3 (by omega) q)))
          · exact .inr ⟨n, .node (t.getD i f0).x T T', xKQ ht hi (by rw [h, yB1 m n (.inr ⟨rfl, rfl⟩) c3 (by omega) q]; exact yC8 _), by omega, q2, .some hi hT (c3 ▸ q3)⟩

def xFH (t : List Lf) (T : BT) : Prop := t = [] ∧ T = .nil ∨ t.length ≤ 31 ∧ Sub t 0 0 T t.length

theorem xR2 (z : Bool) (t : List Lf) (ht : t.length < 1099511627776) : L.pcall 91 [tw z t] = some (.bool false) ∨ L.pcall 91 [tw z t] = some (.bool true) ∧ ∃ T, xFH t T := by
  have e : (((t.length : Nat) : Int) ≤ 31) = (t.length ≤ 31) := propext ⟨fun h => by omega, fun h => by omega⟩
  by_cases h0 : t.length = 0
  · right
    refine ⟨?_, .nil, .inl ⟨List.length_eq_zero_iff.1 h0, rfl⟩⟩
    have h0' : (((t.length : Nat) : Int) = 0) = True := eq_true (by omega)
    rw [xWn, a91, xA7]
    simp (maxSteps := 30000000) (disch := first | assumption | omega | (simp only [List.length_cons, List.length_nil, List.length_append, List.length_set, List.length_replicate, List.length_map, List.length_range, List.length_take, List.length_drop, List.all_cons, List.all_nil, AV.isCell, Bool.and_self, Bool.and_true, xAh, xAb, xAe, xAa, xAP] <;> omega) | rfl | decide) only [xAU, List.length_cons, List.length_nil, Nat.zero_add, Nat.reduceSub, xCL, List.cons_append, List.nil_append, xAp, xAf, xAc, xAk, xAA, opv, xAq, List.set_cons_succ, List.set_cons_zero, xAi, xAg, xAj, xAd, List.getD_cons_zero, xBk, List.getD_cons_succ, xA8, xAl, xAy, xBM, h0', decide_true, xAM, xAD, Bool.true_eq_false, ↓reduceIte, xCy, xJM, xBb, xAN, xAW, xAI, xAR, xA2, xAw, xAQ, xBL, xB2]
  · have h0' : (((t.length : Nat) : Int) = 0) = False := eq_false (by omega)
    by_cases h1 : t.length ≤ 31
    · rcases xVQ (z := z) ht t.length 0 (by omega) (by omega) with q | ⟨n, T, q, q1, q2, q3⟩
      · left
        simp only [Int.natCast_zero] at q
        have h2 : ((-1 : Int) = (t.length : Nat)) = False := eq_false (by omega)
        rw [xWn, a91, xA7]
        simp (maxSteps := 30000000) (disch := first | assumption | omega | (simp only [List.length_cons, List.length_nil, List.length_append, List.length_set, List.length_replicate, List.length_map, List.length_range, List.length_take, List.length_drop, List.all_cons, List.all_nil, AV.isCell, Bool.and_self, Bool.and_true, xAh, xAb, xAe, xAa, xAP] <;> omega) | rfl | decide) only [xAU, List.length_cons, List.length_nil, Nat.zero_add, Nat.reduceSub, xCL, List.cons_append, List.nil_append, xAp, xAf, xAc, xAk, xAA, opv, xAq, List.set_cons_succ, List.set_cons_zero, xAi, xAg, xAj, xAd, List.getD_cons_zero, xBk, List.getD_cons_succ, xA8, xAl, xAy, xBM, h0', decide_false, xAM, xAD, ↓reduceIte, xDV, e, h1, decide_true, xBJ, List.map_cons, List.map_nil, xBi, xBL, List.mapM_cons, xCa, xA0, List.mapM_nil, Option.pure_def, Option.bind_eq_bind, Option.bind_some, xBh, q, Int.reduceNeg, xBg, xDT, xCw, h2, xBb, xAN, Bool.false_eq_true, xAW, xAI, xAR, xA2, xAw, xAQ, xB2]
      · simp only [Int.natCast_zero] at q
        by_cases c : n = t.length
        · right
          refine ⟨?_, T, .inr ⟨h1, c ▸ q3⟩⟩
          have h2 : (((n : Nat) : Int) = (t.length : Nat)) = True := eq_true (by omega)
          rw [xWn, a91, xA7]
          simp (maxSteps := 30000000) (disch := first | assumption | omega | (simp only [List.length_cons, List.length_nil, List.length_append, List.length_set, List.length_replicate, List.length_map, List.length_range, List.length_take, List.length_drop, List.all_cons, List.all_nil, AV.isCell, Bool.and_self, Bool.and_true, xAh, xAb, xAe, xAa, xAP] <;> omega) | rfl | decide) only [xAU, List.length_cons, List.length_nil, Nat.zero_add, Nat.reduceSub, xCL, List.cons_append, List.nil_append, xAp, xAf, xAc, xAk, xAA, opv, xAq, List.set_cons_succ, List.set_cons_zero, xAi, xAg, xAj, xAd, List.getD_cons_zero, xBk, List.getD_cons_succ, xA8, xAl, xAy, xBM, h0', decide_false, xAM, xAD, ↓reduceIte, xDV, e, h1, decide_true, xBJ, List.map_cons, List.map_nil, xBi, xBL, List.mapM_cons, xCa, xA0, List.mapM_nil, Option.pure_def, Option.bind_eq_bind, Option.bind_some, xBh, q, xBg, xDT, xCw, h2, xBb, xAN, Bool.false_eq_true, xAW, xAI, xAR, xA2, xAw, xAQ, xB2]
        · left
          have h2 : (((n : Nat) : Int) = (t.length : Nat)) = False := eq_false (by omega)
          rw [xWn, a91, xA7]
          simp (maxSteps := 30000000) (disch := first | assumption | omega | (simp only [List.length_cons, List.length_nil, List.length_append, List.length_set, List.length_replicate, List.length_map, List.length_range, List.length_take, List.length_drop, List.all_cons, List.all_nil, AV.isCell, Bool.and_self, Bool.and_true, xAh, xAb, xAe, xAa, xAP] <;> omega) | rfl | decide) only [xAU, List.length_cons, List.length_nil, Nat.zero_add, Nat.reduceSub, xCL, List.cons_append, List.nil_append, xAp, xAf, xAc, xAk, xAA, opv, xAq, List.set_cons_succ, List.set_cons_zero, xAi, xAg, xAj, xAd, List.getD_cons_zero, xBk, List.getD_cons_succ, xA8, xAl, xAy, xBM, h0', decide_false, xAM, xAD, ↓reduceIte, xDV, e, h1, decide_true, xBJ, List.map_cons, List.map_nil, xBi, xBL, List.mapM_cons, xCa, xA0, List.mapM_nil, Option.pure_def, Option.bind_eq_bind, Option.bind_some, xBh, q, xBg, xDT, xCw, h2, xBb, xAN, Bool.false_eq_true, xAW, xAI, xAR, xA2, xAw, xAQ, xB2]
    · left
      rw [xWn, a91, xA7]
      simp (maxSteps := 30000000) (disch := first | assumption | omega | (simp only [List.length_cons, List.length_nil, List.length_append, List.length_set, List.length_replicate, List.length_map, List.length_range, List.length_take, List.length_drop, List.all_cons, List.all_nil, AV.isCell, Bool.and_self, Bool.and_true, xAh, xAb, xAe, xAa, xAP] <;> omega) | rfl | decide) only [xAU, List.length_cons, List.length_nil, Nat.zero_add, Nat.reduceSub, xCL, List.cons_append, List.nil_append, xAp, xAf, xAc, xAk, xAA, opv, xAq, List.set_cons_succ, List.set_cons_zero, xAi, xAg, xAj, xAd, List.getD_cons_zero, xBk, List.getD_cons_succ, xA8, xAl, xAy, xBM, h0', decide_false, xAM, xAD, ↓reduceIte, xDV, e, h1, Bool.false_eq_true, xCy, xBb, xAN, xAW, xAI, xAR, xA2, xAw, xAQ, xBL, xB2]
theorem xUc (x : Nat) {v b : Nat} (h : v ≤ b) : Int.fdiv (x : Int) (2 ^ min v b) = ((x >>> v : Nat) : Int) := by
  rw [Nat.min_eq_left h, Nat.shiftRight_eq_div_pow, show (2 : Int) ^ v = ((2 ^ v : Nat) : Int) from by rw [Int.natCast_pow]; rfl, Int.fdiv_eq_ediv_of_nonneg _ (Int.natCast_nonneg _)]
  rfl

theorem xPe {z : Bool} {t : List Lf} {v : Nat} {s4 : AV} (hv : v ≤ 3) (hl : t.length < 1099511627776) (hx : ∀ e ∈ t, e.x < 256) : ∀ d i H, i + d = t.length →
    ∃ (H' : xAu) (i' : AV), (∀ e ∈ t.drop i, e.x >>> v = 0) ∧ L.loop xJL xQ0 ⟨xIg (tw z t) (.int .i64 (v : Nat)) s4 (tw z t) (.int .i64 (t.length : Nat)) (.int .i64 (i : Nat)), H⟩ = some (.exit 1, ⟨xIg (tw z t) (.int .i64 (v : Nat)) s4 (tw z t) (.int .i64 (t.length : Nat)) (.int .i64 (t.length : Nat)), H'⟩)
      ∨ (¬ ∀ e ∈ t.drop i, e.x >>> v = 0) ∧ L.loop xJL xQ0 ⟨xIg (tw z t) (.int .i64 (v : Nat)) s4 (tw z t) (.int .i64 (t.length : Nat)) (.int .i64 (i : Nat)), H⟩ = some (.ret, ⟨xIg (tw z t) (.int .i64 (v : Nat)) (.int .i64 1) (tw z t) (.int .i64 (t.length : Nat)) i', H'⟩)
  | 0, i, H, h => by
    obtain rfl : i = t.length := by omega
    refine ⟨H, .any, .inl ⟨by rw [List.drop_length]; simp, ?_⟩⟩
    rw [xOP]
    simp (maxSteps := 30000000) (disch := first | assumption | omega | (simp only [List.length_cons, List.length_nil, List.length_append, List.length_set, List.length_replicate, List.length_map, List.length_range, List.length_take, List.length_drop, List.all_cons, List.all_nil, AV.isCell, Bool.and_self, Bool.and_true, xAh, xAb, xAe, xAa, xAP] <;> omega) | rfl | decide) only [xJK, xAp, xAf, xAc, xAk, xAy, opv, List.getD_cons_succ, List.getD_cons_zero, xAz, Int.lt_irrefl, decide_false, xAl, xAq, List.set_cons_succ, List.set_cons_zero, xAi, xAg, xAj, xAd, xAo, xAn, Bool.false_eq_true, ↓reduceIte, xBt, xBc, xA3, xIh]
  | d + 1, i, H, h => by
    have hlt : (i : Int) < (t.length : Nat) := by omega
    have hm := hx _ (xKP (by omega : i < t.length))
    have hs := xUc (t.getD i f0).x (show v ≤ IntKind.i64.bits from by show v ≤ 64; omega)
    rw [xMU (by omega : i < t.length)]
    by_cases c : (t.getD i f0).x >>> v = 0
    · have c' : ((((t.getD i f0).x >>> v : Nat) : Int) = 0) = True := eq_true (by omega)
      obtain ⟨H', i', ih⟩ := xPe (z := z) (s4 := s4) hv hl hx d (i + 1) (H ++ [.cells false false (xNQ (t.getD i f0))]) (by omega)
      simp only [xNQ] at ih
      refine ⟨H', i', ih.imp (fun q => ⟨?_, ?_⟩) (fun q => ⟨?_, ?_⟩)⟩
      · intro e he
        rcases List.mem_cons.1 he with rfl | he
        · exact c
        · exact q.1 e he
      · have q := q.2
        rw [xOP]
        simp (maxSteps := 30000000) (disch := first | assumption | omega | (simp only [List.length_cons, List.length_nil, List.length_append, List.length_set, List.length_replicate, List.length_map, List.length_range, List.length_take, List.length_drop, List.all_cons, List.all_nil, AV.isCell, Bool.and_self, Bool.and_true, xAh, xAb, xAe, xAa, xAP] <;> omega) | rfl | decide) only [xJK, xAp, xAf, xAc, xAk, xAy, opv, List.getD_cons_succ, List.getD_cons_zero, xAz, hlt, decide_true, xAl, xAq, List.set_cons_succ, List.set_cons_zero, xAi, xAg, xAj, xAd, xAo, xAn, ↓reduceIte, xAx, xAr, xAZ, xAY, Int.toNat_natCast, xAJ, xBj, xI3, xBH, xBz, AV.cells, List.all_cons, AV.isCell, List.all_nil, Bool.and_self, xA4, List.length_cons, List.length_nil, Nat.zero_add, Nat.reduceAdd, xBE, xCM, List.getElem?_cons_zero, xAX, xBd, List.take_zero, List.nil_append, List.drop_succ_cons, List.drop_nil, List.append_nil, xDq, xAK, xBl, xAV, xAB, Nat.add_zero, xA1, xAt, List.drop_zero, List.take_succ_cons, xAO, xDW, xCW, xCV, xAA, xCT, hs, xBm, c', Bool.not_true, Bool.false_eq_true, xAs, xBa, xCi, xAv, xIh, q]
      · intro f
        exact q.1 (fun e he => f e (List.mem_cons_of_mem _ he))
      · have q := q.2
        rw [xOP]
        simp (maxSteps := 30000000) (disch := first | assumption | omega | (simp only [List.length_cons, List.length_nil, List.length_append, List.length_set, List.length_replicate, List.length_map, List.length_range, List.length_take, List.length_drop, List.all_cons, List.all_nil, AV.isCell, Bool.and_self, Bool.and_true, xAh, xAb, xAe, xAa, xAP] <;> omega) | rfl | decide) only [xJK, xAp, xAf, xAc, xAk, xAy, opv, List.getD_cons_succ, List.getD_cons_zero, xAz, hlt, decide_true, xAl, xAq, List.set_cons_succ, List.set_cons_zero, xAi, xAg, xAj, xAd, xAo, xAn, ↓reduceIte, xAx, xAr, xAZ, xAY, Int.toNat_natCast, xAJ, xBj, xI3, xBH, xBz, AV.cells, List.all_cons, AV.isCell, List.all_nil, Bool.and_self, xA4, List.length_cons, List.length_nil, Nat.zero_add, Nat.reduceAdd, xBE, xCM, List.getElem?_cons_zero, xAX, xBd, List.take_zero, List.nil_append, List.drop_succ_cons, List.drop_nil, List.append_nil, xDq, xAK, xBl, xAV, xAB, Nat.add_zero, xA1, xAt, List.drop_zero, List.take_succ_cons, xAO, xDW, xCW, xCV, xAA, xCT, hs, xBm, c', Bool.not_true, Bool.false_eq_true, xAs, xBa, xCi, xAv, xIh, q]
    · have c' : ((((t.getD i f0).x >>> v : Nat) : Int) = 0) = False := eq_false (by omega)
      refine ⟨H ++ [.cells false false (xNQ (t.getD i f0))], .int .i64 (i : Nat), .inr ⟨fun f => c (f _ (List.mem_cons_self ..)), ?_⟩⟩
      rw [xOP]
      simp (maxSteps := 30000000) (disch := first | assumption | omega | (simp only [List.length_cons, List.length_nil, List.length_append, List.length_set, List.length_replicate, List.length_map, List.length_range, List.length_take, List.length_drop, List.all_cons, List.all_nil, AV.isCell, Bool.and_self, Bool.and_true, xAh, xAb, xAe, xAa, xAP] <;> omega) | rfl | decide) only [xJK, xAp, xAf, xAc, xAk, xAy, opv, List.getD_cons_succ, List.getD_cons_zero, xAz, hlt, decide_true, xAl, xAq, List.set_cons_succ, List.set_cons_zero, xAi, xAg, xAj, xAd, xAo, xAn, ↓reduceIte, xAx, xAr, xAZ, xAY, Int.toNat_natCast, xAJ, xBj, xI3, xBH, xBz, AV.cells, List.all_cons, AV.isCell, List.all_nil, Bool.and_self, xA4, List.length_cons, List.length_nil, Nat.zero_add, Nat.reduceAdd, xBE, xCM, List.getElem?_cons_zero, xAX, xBd, List.take_zero, List.nil_append, List.drop_succ_cons, List.drop_nil, List.append_nil, xDq, xAK, xBl, xAV, xAB, Nat.add_zero, xA1, xAt, List.drop_zero, List.take_succ_cons, xAO, xDW, xCW, xCV, xAA, xCT, hs, xBm, c', decide_false, Bool.not_false, xAW, xBs, xBu, xCs, xIh, xNQ]

theorem xI4 {t : List Lf} {c : Int} {m n : Nat} {T : BT} (h : Sub t c m T n) : (c = -1 ∧ n = m ∧ T = .nil) ∨ (c = (m : Int) ∧ m < t.length) := by
  cases h with
  | none m => exact .inl ⟨rfl, rfl, rfl⟩
  | some hm _ _ => exact .inr ⟨rfl, hm⟩

theorem yAq {z : Bool} {t : List Lf} (ht : t.length < 1099511627776) {c : Int} {m n : Nat} {T : BT} (h : Sub t c m T n) : 0 ≤ c → L.pcall 114 [tw z t, .int .i64 (m : Nat)] = some (.int .i64 (n : Nat)) := by
  induction h with
  | none m => intro h; omega
  | @some m k n l r hm hl hr ihl ihr =>
    intro _
    have first : LP z t [] (t.getD m f0).l (t.getD m f0).r (.int .i64 0) ((m + 1 : Nat) : Int) 0 = LP z t [] (t.getD m f0).l (t.getD m f0).r (.int .i64 0) ((k : Nat) : Int) 1 := by
      rcases xI4 hl with ⟨e1, e2, _⟩ | ⟨e1, e2⟩
      · subst e2
        exact yB0 _ (.inl ⟨rfl, rfl⟩) e1
      · exact yB1 (m + 1) k (.inl ⟨rfl, rfl⟩) e1 e2 (ihl (by omega))
    have second : LP z t [] (t.getD m f0).l (t.getD m f0).r (.int .i64 0) ((k : Nat) : Int) 1 = LP z t [] (t.getD m f0).l (t.getD m f0).r (.int .i64 0) ((n : Nat) : Int) 2 := by
      rcases xI4 hr with ⟨e1, e2, _⟩ | ⟨e1, e2⟩
      · subst e2
        exact yB0 _ (.inr ⟨rfl, rfl⟩) e1
      · exact yB1 k n (.inr ⟨rfl, rfl⟩) e1 e2 (ihr (by omega))
    exact xKQ ht hm (by rw [first, second]; exact yC8 _)

open Classical in
noncomputable def xGn (t : List Lf) : Bool := decide (∃ T, xFH t T)
open Classical in
theorem formedB_iff {t : List Lf} : xGn t = true ↔ ∃ T, xFH t T := by unfold xGn; rw [decide_eq_true_eq]

theorem xP1 (z : Bool) {t : List Lf} {T : BT} (ht : t.length < 1099511627776) (h : xFH t T) : L.pcall 91 [tw z t] = some (.bool true) := by
  have e : (((t.length : Nat) : Int) ≤ 31) = (t.length ≤ 31) := propext ⟨fun h => by omega, fun h => by omega⟩
  rcases h with ⟨rfl, rfl⟩ | ⟨h31, hS⟩
  · have h0' : (((([] : List Lf).length : Nat) : Int) = 0) = True := eq_true (by simp)
    rw [xWn, a91, xA7]
    simp (maxSteps := 30000000) (disch := first | assumption | omega | (simp only [List.length_cons, List.length_nil, List.length_append, List.length_set, List.length_replicate, List.length_map, List.length_range, List.length_take, List.length_drop, List.all_cons, List.all_nil, AV.isCell, Bool.and_self, Bool.and_true, xAh, xAb, xAe, xAa, xAP] <;> omega) | rfl | decide) only [xAU, List.length_cons, List.length_nil, Nat.zero_add, Nat.reduceSub, xCL, List.cons_append, List.nil_append, xAp, xAf, xAc, xAk, xAA, opv, xAq, List.set_cons_succ, List.set_cons_zero, xAi, xAg, xAj, xAd, List.getD_cons_zero, xBk, List.getD_cons_succ, xA8, xD8, xAl, xAy, xBM, decide_true, xAM, xAD, Bool.true_eq_false, ↓reduceIte, xCy, xJM, xBb, xAN, xAW, xAI, xAR, xA2, xAw, xAQ, xBL, xB2]
  · have q := yAq (z := z) ht hS (by omega)
    have hpos : ¬ t.length = 0 := by
      intro h0
      rcases xI4 hS with ⟨h, _⟩ | ⟨_, h⟩ <;> omega
    have h0' : (((t.length : Nat) : Int) = 0) = False := eq_false (by omega)
    have h2 : (((t.length : Nat) : Int) = (t.length : Nat)) = True := eq_true rfl
    simp only [Int.natCast_zero] at q
    rw [xWn, a91, xA7]
    simp (maxSteps := 30000000) (disch := first | assumption | omega | (simp only [List.length_cons, List.length_nil, List.length_append, List.length_set, List.length_replicate, List.length_map, List.length_range, List.length_take, List.length_drop, List.all_cons, List.all_nil, AV.isCell, Bool.and_self, Bool.and_true, xAh, xAb, xAe, xAa, xAP] <;> omega) | rfl | decide) only [xAU, List.length_cons, List.length_nil, Nat.zero_add, Nat.reduceSub, xCL, List.cons_append, List.nil_append, xAp, xAf, xAc, xAk, xAA, opv, xAq, List.set_cons_succ, List.set_cons_zero, xAi, xAg, xAj, xAd, List.getD_cons_zero, xBk, List.getD_cons_succ, xA8, xAl, xAy, xBM, h0', decide_false, xAM, xAD, ↓reduceIte, xDV, e, h31, decide_true, xBJ, List.map_cons, List.map_nil, xBi, xBL, List.mapM_cons, xCa, xA0, List.mapM_nil, Option.pure_def, Option.bind_eq_bind, Option.bind_some, xBh, q, xBg, xDT, xCw, xBb, xAN, Bool.false_eq_true, xAW, xAI, xAR, xA2, xAw, xAQ, xB2]

theorem xR3 (z : Bool) (t : List Lf) (ht : t.length < 1099511627776) : L.pcall 91 [tw z t] = some (.bool (xGn t)) := by
  cases h : xGn t with
  | true =>
    obtain ⟨T, hT⟩ := formedB_iff.1 h
    exact xP1 z ht hT
  | false =>
    rcases xR2 z t ht with q | ⟨_, q⟩
    · exact q
    · rw [formedB_iff.2 q] at h; cases h

def xUd (t : List Lf) (v : Nat) : Bool := t.all fun e => decide (e.x >>> v = 0)
theorem labOk_iff {t : List Lf} {v : Nat} : xUd t v = true ↔ ∀ e ∈ t, e.x >>> v = 0 := by simp [xUd]
noncomputable def xHh (t : List Lf) (v : Nat) : Int := if 31 < t.length then 4 else if xUd t v = true then (if xGn t = true then 0 else 2) else 1

theorem xMV (z : Bool) (t : List Lf) (v : Nat) (hv : v ≤ 3) (hl : t.length < 1099511627776) (hx : ∀ e ∈ t, e.x < 256) :
    L.pcall 99 [tw z t, .int .i64 (v : Nat)] = some (.int .i64 (xHh t v)) := by
  have hv3 : ¬ ((3 : Int) < (v : Nat)) := by omega
  have e31 : ((31 : Int) < (t.length : Nat)) = (31 < t.length) := propext ⟨fun h => by omega, fun h => by omega⟩
  have q := xR3 z t hl
  unfold xHh
  by_cases c : 31 < t.length
  · rw [if_pos c, yBi, a99, xA7]
    simp (maxSteps := 30000000) (disch := first | assumption | omega | (simp only [List.length_cons, List.length_nil, List.length_append, List.length_set, List.length_replicate, List.length_map, List.length_range, List.length_take, List.length_drop, List.all_cons, List.all_nil, AV.isCell, Bool.and_self, Bool.and_true, xAh, xAb, xAe, xAa, xAP] <;> omega) | rfl | decide) only [xAU, List.length_cons, List.length_nil, Nat.zero_add, Nat.reduceAdd, Nat.reduceSub, xCL, List.cons_append, List.nil_append, xAp, xAf, xAc, xAk, xAA, opv, xAq, List.set_cons_succ, List.set_cons_zero, xAi, xAg, xAj, xAd, xAr, List.getD_cons_succ, List.getD_cons_zero, xAy, xAz, xYx, decide_false, xAl, xAM, xAD, ↓reduceIte, xCm, hv3, xBb, xAN, Bool.false_eq_true, xAo, xAn, xBk, xA8, e31, c, decide_true, xAW, xBs, xBu, xAI, xAR, xA2, xAw, xAQ, xBL, xA0]
  · rw [if_neg c]
    obtain ⟨H', i', g⟩ := xPe (z := z) (s4 := .int .i64 0) hv hl hx t.length 0 [] (by omega)
    simp only [Int.natCast_zero, List.drop_zero] at g
    rcases g with ⟨g1, g⟩ | ⟨g1, g⟩
    · rw [if_pos (labOk_iff.2 g1)]
      cases hf : xGn t with
      | false =>
        rw [hf] at q
        rw [if_neg (by simp), yBi, a99, xA7]
        simp (maxSteps := 30000000) (disch := first | assumption | omega | (simp only [List.length_cons, List.length_nil, List.length_append, List.length_set, List.length_replicate, List.length_map, List.length_range, List.length_take, List.length_drop, List.all_cons, List.all_nil, AV.isCell, Bool.and_self, Bool.and_true, xAh, xAb, xAe, xAa, xAP] <;> omega) | rfl | decide) only [xAU, List.length_cons, List.length_nil, Nat.zero_add, Nat.reduceAdd, Nat.reduceSub, xCL, List.cons_append, List.nil_append, xAp, xAf, xAc, xAk, xAA, opv, xAq, List.set_cons_succ, List.set_cons_zero, xAi, xAg, xAj, xAd, xAr, List.getD_cons_succ, List.getD_cons_zero, xAy, xAz, xYx, decide_false, xAl, xAM, xAD, ↓reduceIte, xCm, hv3, xBb, xAN, Bool.false_eq_true, xAo, xAn, xBk, xA8, e31, c, xAx, xAs, xA6, xIh, g, xAS, xBJ, List.map_cons, List.map_nil, xBi, xBL, List.mapM_cons, xCa, List.mapM_nil, Option.pure_def, Option.bind_eq_bind, Option.bind_some, xBh, q, xBg, xDT, xCw, xHI, xE7, Bool.not_false, xAW, xBu, xAI, xAR, xA2, xAw, xAQ, xA0]
      | true =>
        rw [hf] at q
        rw [if_pos rfl, yBi, a99, xA7]
        simp (maxSteps := 30000000) (disch := first | assumption | omega | (simp only [List.length_cons, List.length_nil, List.length_append, List.length_set, List.length_replicate, List.length_map, List.length_range, List.length_take, List.length_drop, List.all_cons, List.all_nil, AV.isCell, Bool.and_self, Bool.and_true, xAh, xAb, xAe, xAa, xAP] <;> omega) | rfl | decide) only [xAU, List.length_cons, List.length_nil, Nat.zero_add, Nat.reduceAdd, Nat.reduceSub, xCL, List.cons_append, List.nil_append, xAp, xAf, xAc, xAk, xAA, opv, xAq, List.set_cons_succ, List.set_cons_zero, xAi, xAg, xAj, xAd, xAr, List.getD_cons_succ, List.getD_cons_zero, xAy, xAz, xYx, decide_false, xAl, xAM, xAD, ↓reduceIte, xCm, hv3, xBb, xAN, Bool.false_eq_true, xAo, xAn, xBk, xA8, e31, c, xAx, xAs, xA6, xIh, g, xAS, xBJ, List.map_cons, List.map_nil, xBi, xBL, List.mapM_cons, xCa, List.mapM_nil, Option.pure_def, Option.bind_eq_bind, Option.bind_some, xBh, q, xBg, xDT, xCw, xHI, xE7, Bool.not_true, xAW, xAI, xAR, xA2, xAw, xAQ, xA0]
    · rw [if_neg (fun h => g1 (labOk_iff.1 h)), yBi, a99, xA7]
      simp (maxSteps := 30000000) (disch := first | assumption | omega | (simp only [List.length_cons, List.length_nil, List.length_append, List.length_set, List.length_replicate, List.length_map, List.length_range, List.length_take, List.length_drop, List.all_cons, List.all_nil, AV.isCell, Bool.and_self, Bool.and_true, xAh, xAb, xAe, xAa, xAP] <;> omega) | rfl | decide) only [xAU, List.length_cons, List.length_nil, Nat.zero_add, Nat.reduceAdd, Nat.reduceSub, xCL, List.cons_append, List.nil_append, xAp, xAf, xAc, xAk, xAA, opv, xAq, List.set_cons_succ, List.set_cons_zero, xAi, xAg, xAj, xAd, xAr, List.getD_cons_succ, List.getD_cons_zero, xAy, xAz, xYx, decide_false, xAl, xAM, xAD, ↓reduceIte, xCm, hv3, xBb, xAN, Bool.false_eq_true, xAo, xAn, xBk, xA8, e31, c, xAx, xAs, xA6, xIh, g, xBs, xBu, xAI, xAR, xA2, xAw, xAQ, xBL, xA0]

end Go.Abs.Det

/- Trees as lists of nodes. -/
namespace Go.Abs.Det
open Go Go.Abs
set_option linter.unusedSimpArgs false
set_option linter.unusedVariables false

def BT.size : BT → Nat
  | .nil => 0
  | .node _ l r => 1 + (l.size + r.size)
def xDr (m : Nat) : BT → Int
  | .nil => -1
  | .node _ _ _ => (m : Nat)
def xDu (m : Nat) : BT → List Lf
  | .nil => []
  | .node x l r => ⟨x, xDr (m + 1) l, xDr (m + 1 + l.size) r⟩ :: (xDu (m + 1) l ++ xDu (m + 1 + l.size) r)
theorem xCK : ∀ (T : BT) (m : Nat), (xDu m T).length = T.size
  | .nil, m => rfl
  | .node x l r, m => by
    rw [xDu, List.length_cons, List.length_append, xCK l, xCK r, BT.size]; omega

theorem xXt {t : List Lf} {c : Int} {m n : Nat} {T : BT} (h : Sub t c m T n) : c = xDr m T ∧ n = m + T.size ∧ (t.drop m).take T.size = xDu m T := by
  induction h with
  | none m => exact ⟨rfl, rfl, by simp [BT.size, xDu]⟩
  | @some m k n l r hm hl hr ihl ihr =>
    obtain ⟨l1, rfl, l3⟩ := ihl
    obtain ⟨r1, rfl, r3⟩ := ihr
    refine ⟨rfl, by rw [BT.size]; omega, ?_⟩
    rw [xMU hm, BT.size, show 1 + (l.size + r.size) = (l.size + r.size) + 1 by omega, List.take_succ_cons, List.take_add, List.drop_drop, l3, r3, xDu, ← l1, ← r1]

theorem xP2 {t : List Lf} {T : BT} (h : xFH t T) : t = xDu 0 T ∧ T.size ≤ 31 := by
  rcases h with ⟨rfl, rfl⟩ | ⟨h1, h2⟩
  · exact ⟨rfl, by simp [BT.size]⟩
  · obtain ⟨-, e, h3⟩ := xXt h2
    rw [List.drop_zero, List.take_of_length_le (by omega)] at h3
    exact ⟨h3, by omega⟩

theorem xNU : ∀ (T : BT) (A B : List Lf), Sub (A ++ xDu A.length T ++ B) (xDr A.length T) A.length T (A.length + T.size)
  | .nil, A, B => .none _
  | .node x l r, A, B => by
    have hl := xNU l (A ++ [⟨x, xDr (A.length + 1) l, xDr (A.length + 1 + l.size) r⟩]) (xDu (A.length + 1 + l.size) r ++ B)
    have hr := xNU r (A ++ ⟨x, xDr (A.length + 1) l, xDr (A.length + 1 + l.size) r⟩ :: xDu (A.length + 1) l) B
    have e1 : (A ++ [(⟨x, xDr (A.length + 1) l, xDr (A.length + 1 + l.size) r⟩ : Lf)]).length = A.length + 1 := by simp
    have e2 : (A ++ (⟨x, xDr (A.length + 1) l, xDr (A.length + 1 + l.size) r⟩ : Lf) :: xDu (A.length + 1) l).length = A.length + 1 + l.size := by
      rw [List.length_append, List.length_cons, xCK]; omega
    rw [e1] at hl
    rw [e2] at hr
    have el : A ++ xDu A.length (.node x l r) ++ B = A ++ [⟨x, xDr (A.length + 1) l, xDr (A.length + 1 + l.size) r⟩] ++ xDu (A.length + 1) l ++ (xDu (A.length + 1 + l.size) r ++ B) := by
      simp [xDu]
    have er : A ++ xDu A.length (.node x l r) ++ B = A ++ ⟨x, xDr (A.length + 1) l, xDr (A.length + 1 + l.size) r⟩ :: xDu (A.length + 1) l ++ xDu (A.length + 1 + l.size) r ++ B := by
      simp [xDu]
    rw [← el] at hl
    rw [← er] at hr
    have hg : (A ++ xDu A.length (.node x l r) ++ B).getD A.length f0 = ⟨x, xDr (A.length + 1) l, xDr (A.length + 1 + l.size) r⟩ := by
      simp [xDu, List.getD]
    have hm : A.length < (A ++ xDu A.length (.node x l r) ++ B).length := by
      simp [xDu]
    have := Sub.some (t := A ++ xDu A.length (.node x l r) ++ B) hm (by rw [hg]; exact hl) (by rw [hg]; exact hr)
    rw [hg] at this
    rw [BT.size, show A.length + (1 + (l.size + r.size)) = A.length + 1 + l.size + r.size by omega]
    exact this

theorem xKc {T : BT} (h : T.size ≤ 31) : xFH (xDu 0 T) T := by
  cases T with
  | nil => exact .inl ⟨rfl, rfl⟩
  | node x l r =>
    have := xNU (.node x l r) [] []
    rw [List.append_nil, List.nil_append] at this
    exact .inr ⟨by rw [xCK]; exact h, by rw [xCK]; simpa [xDr] using this⟩

def BT.labs (p : Nat → Prop) : BT → Prop
  | .nil => True
  | .node x l r => p x ∧ l.labs p ∧ r.labs p
theorem xFV {p : Nat → Prop} : ∀ (T : BT) (m : Nat), (∀ e ∈ xDu m T, p e.x) ↔ T.labs p
  | .nil, m => by simp [xDu, BT.labs]
  | .node x l r, m => by
    have hl := xFV (p := p) l (m + 1)
    have hr := xFV (p := p) r (m + 1 + l.size)
    rw [BT.labs, ← hl, ← hr, xDu]
    simp only [List.mem_cons, List.mem_append]
    constructor
    · intro h
      exact ⟨h _ (.inl rfl), fun e he => h e (.inr (.inl he)), fun e he => h e (.inr (.inr he))⟩
    · rintro ⟨h1, h2, h3⟩ e (rfl | he | he)
      · exact h1
      · exact h2 e he
      · exact h3 e he
end Go.Abs.Det

/- CopyTree. -/
namespace Go.Abs.Det
open Go Go.Abs
set_option linter.unusedSimpArgs false
set_option linter.unusedVariables false

theorem xXu (d : Nat) (H : xAu) (l : List Lf) : (lfs l).mapM (frz d H) = some (lfs l) := by
  induction l with
  | nil => rfl
  | cons e l ih =>
    have : lfs (e :: l) = .int .u8 (e.x : Nat) :: .int .i64 e.l :: .int .i64 e.r :: lfs l := rfl
    rw [this]
    simp only [List.mapM_cons, xA0, ih]
    rfl
theorem yAr (z : Bool) (l : List Lf) (hl : l.length < 1099511627776) : L.pcall 13 [tw z l] = some (tw (l.length == 0) l) := by
  have htk : List.take (l.length * 3) (lfs l) = lfs l := List.take_of_length_le (by rw [xAP]; omega)
  rw [yEE, a13, xA7]
  simp (maxSteps := 30000000) (disch := first | assumption | omega | (simp only [List.length_cons, List.length_nil, List.length_append, List.length_set, List.length_replicate, List.length_map, List.length_range, List.length_take, List.length_drop, List.all_cons, List.all_nil, AV.isCell, Bool.and_self, Bool.and_true, xAh, xAb, xAe, xAa, xAP] <;> omega) | rfl | decide) only [xAU, List.length_cons, List.length_nil, Nat.zero_add, Nat.reduceSub, xCL, List.cons_append, List.nil_append, xAp, xAf, xAc, xAk, xAA, opv, xAq, List.set_cons_succ, List.set_cons_zero, xAi, xAg, xAj, xAd, List.getD_cons_zero, xBT, List.getD_cons_succ, xDk, xDK, xCR, xAW, xAI, xAR, xA2, xAw, xAQ, xBL, xKq, List.getElem?_cons_zero, xFO, List.drop_zero, htk, xXu, xB6]
end Go.Abs.Det

/- sub: a row. -/
namespace Go.Abs.Det
open Go Go.Abs
set_option linter.unusedSimpArgs false
set_option linter.unusedVariables false

structure Rw where
  z : Bool
  l : List Int
structure Rws where
  z : Bool
  l : List Rw
structure Dfa where
  vars : Int
  empty : Int
  z : Bool
  next : List Rws
  zf : Bool
  fin : List Bool
def r0 : Rw := ⟨true, []⟩
def rr0 : Rws := ⟨true, []⟩
def rwV (r : Rw) : AV := .sl r.z r.l.length (xCh r.l)
def xS7 (r : Rws) : AV := .sl r.z r.l.length (r.l.map rwV)
def xCq (l : List Bool) : List AV := l.map AV.bool
def Dfa.cells (d : Dfa) : List AV := [.int .i64 d.vars, .int .i64 d.empty, .sl d.z d.next.length (d.next.map xS7), .sl d.zf d.fin.length (xCq d.fin)]
def Dfa.av (d : Dfa) : AV := .agg d.cells

theorem xCe {α : Type} (f : α → AV) (a : α) {l : List α} {i : Nat} (h : i < l.length) : List.take 1 (List.drop i (l.map f)) = [f (l.getD i a)] := by
  rw [List.drop_eq_getElem_cons (by simpa using h)]
  simp [List.getD, List.getElem?_eq_getElem h]
theorem yAs {l : List Rw} {i : Nat} (h : i < l.length) : List.take 1 (List.drop i (l.map rwV)) = [rwV (l.getD i r0)] := xCe _ _ h
theorem xR4 {l : List Rws} {i : Nat} (h : i < l.length) : List.take 1 (List.drop i (l.map xS7)) = [xS7 (l.getD i rr0)] := xCe _ _ h
theorem xKR {l : List Bool} {i : Nat} (h : i < l.length) : List.take 1 (List.drop i (xCq l)) = [AV.bool (l.getD i false)] := xCe _ _ h
theorem xAC (l : List Bool) : (xCq l).length = l.length := List.length_map ..
theorem xI5 (n : Nat) : xEf [AV.int .i64 0] n = xCh (List.replicate n 0) := by
  induction n with
  | zero => rfl
  | succ n ih => simp [xEf, ih, xCh, List.replicate_succ]

def nrm (x n : Int) : Int := (x.tmod n + n).tmod n
theorem xI6 (x : Int) {n : Int} (h : 0 < n) : -n < x.tmod n ∧ x.tmod n < n := by
  have h1 := Int.tmod_lt_of_pos x h
  have h2 : -n < x.tmod n := by
    have := Int.lt_tmod_of_pos x h
    exact this
  exact ⟨h2, h1⟩
theorem xKd (x : Int) {n : Int} (h : 0 < n) : 0 ≤ nrm x n ∧ nrm x n < n := by
  have := xI6 x h
  exact ⟨Int.tmod_nonneg _ (by omega), (xI6 _ h).2⟩

def xFg (d : Dfa) (n l r x : Nat) : Int :=
  if r < (d.next.getD l rr0).l.length ∧ x < ((d.next.getD l rr0).l.getD r r0).l.length then nrm (((d.next.getD l rr0).l.getD r r0).l.getD x 0) n else 0

section
variable {d : Dfa} {n m l r k : Nat} {s4 s5 s7 : AV}
theorem xXv (hn : 0 < n) (hn8 : n ≤ 8) (hm : m ≤ 8) (hl : l < d.next.length) (hk : 2 < k) : ∀ e x G, x + e = m → G[0]? = some (.cells false false d.cells) →
    G[k]? = some (.cells false false (xCh ((List.range x).map (fun x => xFg d n l r x) ++ List.replicate e 0))) →
    L.loop xLt xTk ⟨xLu (.int .i64 n) (.ptr 0 0) s4 s5 (.int .i64 l) s7 (.int .i64 r) (.own false k 0 m 1) (.int .i64 (x : Nat)), G⟩ =
      some (.exit 4, ⟨xLu (.int .i64 n) (.ptr 0 0) s4 s5 (.int .i64 l) s7 (.int .i64 r) (.own false k 0 m 1) (.int .i64 (m : Nat)), G.set k (.cells false false (xCh ((List.range m).map fun x => xFg d n l r x)))⟩) := by
  intro e
  induction e with
  | zero =>
    intro x G h h0 hG
    obtain rfl : x = m := by omega
    rw [List.replicate_zero, List.append_nil] at hG
    have e : G.set k (.cells false false (xCh ((List.range x).map fun x => xFg d n l r x))) = G := by
      obtain ⟨h1, h2⟩ := List.getElem?_eq_some_iff.1 hG
      rw [← h2, List.set_getElem_self]
    rw [e, xOy]
    simp (maxSteps := 30000000) (disch := first | assumption | omega | (simp only [List.length_cons, List.length_nil, List.length_append, List.length_set, List.length_replicate, List.length_map, List.length_range, List.length_take, List.length_drop, List.all_cons, List.all_nil, AV.isCell, Bool.and_self, Bool.and_true, xAh, xAb, xAe, xAa, xAa] <;> omega) | rfl | decide) only [xJz, xAp, xAf, xAc, xAk, xAA, opv, List.getD_cons_succ, List.getD_cons_zero, xAq, List.set_cons_succ, List.set_cons_zero, xAi, xBk, xC0, xAl, xAy, xAz, Int.lt_irrefl, decide_false, xAg, xAj, xAd, xAo, xAn, Bool.false_eq_true, ↓reduceIte, xBt, xBc, xA3, xJA]
  | succ e ih =>
    intro x G h h0 hG
    have hkl := (List.getElem?_eq_some_iff.1 hG).1
    have hlt : (x : Int) < (m : Nat) := by omega
    have hn0 : ((n : Nat) : Int) ≠ 0 := by omega
    have hcs : (List.range (x + 1)).map (fun x => xFg d n l r x) = (List.range x).map (fun x => xFg d n l r x) ++ [xFg d n l r x] := by
      rw [List.range_succ, List.map_append]; rfl
    have hlen : ((List.range x).map (fun x => xFg d n l r x) ++ List.replicate (e + 1) 0).length = m := by simp; omega
    have xDU : ∀ y : Int, ((List.range x).map (fun x => xFg d n l r x) ++ List.replicate (e + 1) 0).set x y = (List.range x).map (fun x => xFg d n l r x) ++ y :: List.replicate e 0 := fun y => by
      rw [List.set_append_right _ _ (by simp)]
      simp [List.replicate_succ]
    by_cases c : r < (d.next.getD l rr0).l.length ∧ x < ((d.next.getD l rr0).l.getD r r0).l.length
    · have ih' := ih (x + 1) (G.set k (.cells false false (xCh ((List.range (x + 1)).map (fun x => xFg d n l r x) ++ List.replicate e 0)))) (by omega)
        (by rw [List.getElem?_set_ne (by omega)]; exact h0) (List.getElem?_set_self hkl)
      rw [List.set_set, hcs, List.append_assoc, List.cons_append, List.nil_append] at ih'
      have hc : xFg d n l r x = nrm (((d.next.getD l rr0).l.getD r r0).l.getD x 0) n := if_pos c
      have c1 : (r : Int) < ((d.next.getD l rr0).l.length : Nat) := by omega
      have c2 : (x : Int) < (((d.next.getD l rr0).l.getD r r0).l.length : Nat) := by omega
      have c3 := c.1
      have c4 := c.2
      have hb := xI6 (((d.next.getD l rr0).l.getD r r0).l.getD x 0) (n := (n : Int)) (by omega)
      rw [hc] at ih'
      unfold nrm at ih'
      generalize hq : (((d.next.getD l rr0).l.getD r r0).l.getD x 0).tmod (n : Int) = q at ih' hb
      have hs := xDU ((q + n).tmod n)
      generalize (List.range x).map (fun x => xFg d n l r x) ++ List.replicate (e + 1) 0 = cur at *
      unfold Dfa.cells at h0
      rw [xOy]
      simp (maxSteps := 30000000) (disch := first | assumption | omega | (simp only [List.length_cons, List.length_nil, List.length_append, List.length_set, List.length_replicate, List.length_map, List.length_range, List.length_take, List.length_drop, List.all_cons, List.all_nil, AV.isCell, Bool.and_self, Bool.and_true, xAh, xAb, xAe, xAa, xAa] <;> omega) | rfl | decide) only [xJz, xAp, xAf, xAc, xAk, xAA, opv, List.getD_cons_succ, List.getD_cons_zero, xAq, List.set_cons_succ, List.set_cons_zero, xAi, xBk, xC0, xAl, xAy, xAz, hlt, decide_true, xAg, xAj, xAd, xAo, xAn, ↓reduceIte, xAx, xAr, xAV, xAB, Nat.zero_add, xAJ, xA1, h0, xAt, List.drop_succ_cons, List.drop_zero, List.take_succ_cons, List.take_zero, xAO, xAZ, xAY, Int.toNat_natCast, Nat.mul_one, xBj, xR4, xS7, xA8, c1, xAM, xAD, yAs, rwV, c2, xBb, xAN, xB1, xBW, xCr, xBV, Nat.add_zero, xNo, hq, xBa, xCV, xBU, xA4, AV.cells, List.length_cons, List.length_nil, xBE, hG, xAX, xBd, List.append_assoc, List.cons_append, List.nil_append, xJb, xDU, xAK, xBl, xAs, xCi, xAv, xJA, ih']
    · have hc : xFg d n l r x = 0 := if_neg c
      have ih' := ih (x + 1) G (by omega) h0 (by rw [hcs, hc, List.append_assoc]; exact hG)
      unfold Dfa.cells at h0
      by_cases c3 : r < (d.next.getD l rr0).l.length
      · have c1 : (r : Int) < ((d.next.getD l rr0).l.length : Nat) := by omega
        have c2 : ¬ (x : Int) < (((d.next.getD l rr0).l.getD r r0).l.length : Nat) := by omega
        rw [xOy]
        simp (maxSteps := 30000000) (disch := first | assumption | omega | (simp only [List.length_cons, List.length_nil, List.length_append, List.length_set, List.length_replicate, List.length_map, List.length_range, List.length_take, List.length_drop, List.all_cons, List.all_nil, AV.isCell, Bool.and_self, Bool.and_true, xAh, xAb, xAe, xAa, xAa] <;> omega) | rfl | decide) only [xJz, xAp, xAf, xAc, xAk, xAA, opv, List.getD_cons_succ, List.getD_cons_zero, xAq, List.set_cons_succ, List.set_cons_zero, xAi, xBk, xC0, xAl, xAy, xAz, hlt, decide_true, xAg, xAj, xAd, xAo, xAn, ↓reduceIte, xAx, xAr, xAV, xAB, Nat.zero_add, xAJ, xA1, h0, xAt, List.drop_succ_cons, List.drop_zero, List.take_succ_cons, List.take_zero, xAO, xAZ, xAY, Int.toNat_natCast, Nat.mul_one, xBj, xR4, xS7, xA8, c1, xAM, xAD, yAs, rwV, c2, decide_false, xBb, xAN, Bool.false_eq_true, xAs, xBa, xCi, xCV, xAv, xJA, ih']
      · have c1 : ¬ (r : Int) < ((d.next.getD l rr0).l.length : Nat) := by omega
        rw [xOy]
        simp (maxSteps := 30000000) (disch := first | assumption | omega | (simp only [List.length_cons, List.length_nil, List.length_append, List.length_set, List.length_replicate, List.length_map, List.length_range, List.length_take, List.length_drop, List.all_cons, List.all_nil, AV.isCell, Bool.and_self, Bool.and_true, xAh, xAb, xAe, xAa, xAa] <;> omega) | rfl | decide) only [xJz, xAp, xAf, xAc, xAk, xAA, opv, List.getD_cons_succ, List.getD_cons_zero, xAq, List.set_cons_succ, List.set_cons_zero, xAi, xBk, xC0, xAl, xAy, xAz, hlt, decide_true, xAg, xAj, xAd, xAo, xAn, ↓reduceIte, xAx, xAr, xAV, xAB, Nat.zero_add, xAJ, xA1, h0, xAt, List.drop_succ_cons, List.drop_zero, List.take_succ_cons, List.take_zero, xAO, xAZ, xAY, Int.toNat_natCast, Nat.mul_one, xBj, xR4, xS7, xA8, c1, decide_false, xAM, xAD, Bool.false_eq_true, xCy, xBb, xAN, xAs, xBa, xCi, xCV, xAv, xJA, ih']
end
end Go.Abs.Det

/- sub: the rows of a state; all states; sub. -/
namespace Go.Abs.Det
open Go Go.Abs
set_option linter.unusedSimpArgs false
set_option linter.unusedVariables false

def xFk (l : List Int) : AV := .sl false l.length (xCh l)
def xP3 (d : Dfa) (n m l r : Nat) : List Int := (List.range m).map fun x => xFg d n l r x
theorem xPf (d : Dfa) (n m l r : Nat) : (xP3 d n m l r).length = m := by simp [xP3]
def xF4 (d : Dfa) (n m l k : Nat) : List AV := (List.range k).map fun r => xFk (xP3 d n m l r)
theorem xEG (d : Dfa) (n m l k : Nat) : (xF4 d n m l k).length = k := by simp [xF4]
theorem xKe (d : Dfa) (n m l k : Nat) : xF4 d n m l (k + 1) = xF4 d n m l k ++ [xFk (xP3 d n m l k)] := by
  unfold xF4; rw [List.range_succ, List.map_append]; rfl

theorem xMW (l : List Int) : (xCh l).all xCB = true := by
  induction l with
  | nil => rfl
  | cons a l ih => simp [xCh, xCB]

section
variable {d : Dfa} {n m l B : Nat} {v2 : Int} {c1 c2 c3 : AV}
theorem xUe (hn : 0 < n) (hn8 : n ≤ 8) (hm : m ≤ 8) (hl : l < d.next.length) (hB : 2 < B) (hv : IntKind.i64.wrap (1 * 2 ^ min v2.toNat IntKind.i64.bits) = (m : Nat)) (hv0 : 0 ≤ v2) : ∀ e r G v, r + e = n → G[0]? = some (.cells false false d.cells) →
    G[2]? = some (.cells false false [.int .i64 v2, c1, c2, c3]) → B ≤ G.length → Grow 1 G B v (xF4 d n m l r) →
    ∃ G' v', L.loop xLw xTl ⟨xLx (.int .i64 n) (.ptr 0 0) (.ptr 1 0) (.ptr 2 0) (.int .i64 l) v (.int .i64 (r : Nat)), G⟩ =
      some (.exit 2, ⟨xLx (.int .i64 n) (.ptr 0 0) (.ptr 1 0) (.ptr 2 0) (.int .i64 l) v' (.int .i64 (n : Nat)), G'⟩) ∧ Grow 1 G' B v' (xF4 d n m l n) ∧ G.length ≤ G'.length ∧ ∀ b, b < B → G'[b]? = G[b]? := by
  intro e
  induction e with
  | zero =>
    intro r G v h h0 h2 hBG hv'
    obtain rfl : r = n := by omega
    refine ⟨G, v, ?_, hv', Nat.le_refl _, fun _ _ => rfl⟩
    rw [xQI]
    simp (maxSteps := 30000000) (disch := first | assumption | omega | (simp only [List.length_cons, List.length_nil, List.length_append, List.length_set, List.length_replicate, List.length_map, List.length_range, List.length_take, List.length_drop, List.all_cons, List.all_nil, AV.isCell, Bool.and_self, Bool.and_true, xAh, xAb, xAe, xAa, xAa] <;> omega) | rfl | decide) only [xLv, xAp, xAf, xAc, xAk, xAA, opv, List.getD_cons_succ, List.getD_cons_zero, xAq, List.set_cons_succ, List.set_cons_zero, xAi, xAy, xAz, Int.lt_irrefl, decide_false, xAl, xAg, xAj, xAd, xAo, xAn, Bool.false_eq_true, ↓reduceIte, xBt, xBc, xA3, xH3]
  | succ e ih =>
    intro r G v h h0 h2 hBG hG
    have hlt : (r : Int) < (n : Nat) := by omega
    have hnn : ¬ v2 < 0 := by omega
    have hrow := xXv (d := d) (n := n) (m := m) (l := l) (r := r) (k := G.length) (s4 := .ptr 1 0) (s5 := .ptr 2 0) (s7 := v) hn hn8 hm hl (by omega) m 0 (G ++ [.cells false false (xCh (List.replicate m 0))]) (by omega) (xA9 h0) (xCM _ _)
    rw [xDq] at hrow
    have hrl := xPf d n m l r
    have hrowE : (List.range m).map (fun x => xFg d n l r x) = xP3 d n m l r := rfl
    rw [hrowE] at hrow
    simp only [List.set_cons_zero, Int.natCast_zero] at hrow
    have fr : Fz 1 (G ++ [.cells false false (xCh (xP3 d n m l r)), .cells false false [.own false G.length 0 m 1]]) G.length (.own false G.length 0 m 1) (xFk (xP3 d n m l r)) := by
      have := Fz.row (G := G ++ [.cells false false (xCh (xP3 d n m l r)), .cells false false [.own false G.length 0 m 1]]) (B := G.length) (id := G.length) (es := 1) (n := m) (xCM _ _) (xMW _) (by rw [xAa, hrl, Nat.mul_one]) (Nat.le_refl _)
      unfold xFk
      rw [hrl]
      exact this
    rcases hG with ⟨hts, rfl⟩ | ⟨id, cs, rfl, g2, g3, g4, g5⟩
    · have hr0 : r = 0 := by have := congrArg List.length hts; rw [xEG] at this; simpa using this
      have hg' := Grow.first (B := B) (fr.low hBG) (by simp; omega)
      rw [List.append_assoc] at hg'
      obtain ⟨G', v', e1, e2, e3, e4⟩ := ih (r + 1) (G ++ ([.cells false false (xCh (xP3 d n m l r)), .cells false false [.own false G.length 0 m 1]] ++ [.cells false false [.own false G.length 0 m 1]])) (.own false (G.length + 2) 0 1 1) (by omega) (xA9 h0) (xA9 h2) (by simp; omega)
        (by rw [xKe, hts, List.nil_append]; simpa using hg')
      refine ⟨G', v', ?_, e2, by simp at e3; omega, fun b hb => (e4 b hb).trans (List.getElem?_append_left (by omega))⟩
      have h0' := fun T => xA9 (X := T) h0
      have h2' := fun T => xA9 (X := T) h2
      simp only [List.cons_append, List.nil_append] at e1
      rw [xQI]
      simp (maxSteps := 30000000) (disch := first | assumption | omega | (simp only [List.length_cons, List.length_nil, List.length_append, List.length_set, List.length_replicate, List.length_map, List.length_range, List.length_take, List.length_drop, List.all_cons, List.all_nil, AV.isCell, Bool.and_self, Bool.and_true, xAh, xAb, xAe, xAa, xAa] <;> omega) | rfl | decide) only [xLv, xAp, xAf, xAc, xAk, xAA, opv, List.getD_cons_succ, List.getD_cons_zero, xAq, List.set_cons_succ, List.set_cons_zero, xAi, xAy, xAz, hlt, decide_true, xAl, xAg, xAj, xAd, xAo, xAn, ↓reduceIte, xAx, xAr, xAV, xAB, Nat.add_zero, xAJ, xA1, h2, xAt, List.drop_zero, List.take_succ_cons, List.take_zero, xAO, xDb, hv, xEw, xGy, Int.toNat_natCast, List.length_cons, List.length_nil, Nat.zero_add, xI5, xCR, xA6, xJA, hrow, xAS, xBP, AV.cells, List.all_cons, beq_self_eq_true, List.all_nil, Bool.and_self, xC1, List.append_nil, Nat.mul_one, List.map_cons, List.map_nil, xCd, Nat.le_refl, AV.isCell, and_self, xBd, List.nil_append, List.drop_succ_cons, List.drop_nil, xBO, List.length_append, List.append_assoc, List.cons_append, xBT, xFm, xNk, List.getElem?_cons_succ, List.getElem?_cons_zero, xDl, List.take_nil, xDK, Nat.reduceBEq, Nat.reduceAdd, xAs, xBa, xCi, xCV, xAv, xH3, e1]
    · have hidl := (List.getElem?_eq_some_iff.1 g2).1
      have g6 := xEG d n m l r
      rw [g6] at g4
      have hg1 : Grow 1 (G ++ [.cells false false (xCh (xP3 d n m l r)), .cells false false [.own false G.length 0 m 1]]) B (.own false id 0 (xF4 d n m l r).length 1) (xF4 d n m l r) :=
        Grow.grow (.inr ⟨id, cs, rfl, g2, g3, by rw [g4, g6], g5⟩) (by simp) (fun b _ hb => List.getElem?_append_left hb)
      rcases hg1 with ⟨hts, hx⟩ | ⟨id', cs', k1, k2, k3, k4, k5⟩
      · cases hx
      have hid : id' = id := by cases k1; rfl
      subst hid
      have hcs : cs' = cs := by rw [xA9 g2] at k2; cases k2; rfl
      subst hcs
      have hne : ∀ d', 1 ≤ d' → id' ∉ bor d' (G ++ [Blk.cells false false (xCh (xP3 d n m l r)), Blk.cells false false [.own false G.length 0 m 1]]) (.own false G.length 0 m 1) := fun d' hd' hm' => by
        have := ((fr d' hd').2 _ hm').1
        omega
      have hg' := Grow.push k2 k3 k4 k5 (fr.low hBG) hne
      obtain ⟨G', v', e1, e2, e3, e4⟩ := ih (r + 1) ((G ++ [Blk.cells false false (xCh (xP3 d n m l r)), Blk.cells false false [.own false G.length 0 m 1]]).set id' .dead ++ [.cells false false (cs' ++ [.own false G.length 0 m 1])]) (.own false (G.length + 2) 0 (r + 1) 1) (by omega)
        (xA9 (by rw [List.getElem?_set_ne (by omega)]; exact xA9 h0)) (xA9 (by rw [List.getElem?_set_ne (by omega)]; exact xA9 h2)) (by simp; omega)
        (by rw [xKe]; simpa [g6] using hg')
      refine ⟨G', v', ?_, e2, by simp at e3; omega, fun b hb => ?_⟩
      · have h0' := fun T => xA9 (X := T) h0
        have h2' := fun T => xA9 (X := T) h2
        have g2' := fun T => xA9 (X := T) g2
        have htk : List.take r cs' = cs' := List.take_of_length_le (by omega)
        simp only [g6] at hrow ⊢
        rw [xQI]
        simp (maxSteps := 30000000) (disch := first | assumption | omega | (simp only [List.length_cons, List.length_nil, List.length_append, List.length_set, List.length_replicate, List.length_map, List.length_range, List.length_take, List.length_drop, List.all_cons, List.all_nil, AV.isCell, Bool.and_self, Bool.and_true, xAh, xAb, xAe, xAa, xAa] <;> omega) | rfl | decide) only [xLv, xAp, xAf, xAc, xAk, xAA, opv, List.getD_cons_succ, List.getD_cons_zero, xAq, List.set_cons_succ, List.set_cons_zero, xAi, xAy, xAz, hlt, decide_true, xAl, xAg, xAj, xAd, xAo, xAn, ↓reduceIte, xAx, xAr, xAV, xAB, Nat.add_zero, xAJ, xA1, h2, xAt, List.drop_zero, List.take_succ_cons, List.take_zero, xAO, xDb, hv, xEw, xGy, Int.toNat_natCast, List.length_cons, List.length_nil, Nat.zero_add, xI5, xCR, xA6, xJA, hrow, xAS, xBP, AV.cells, List.all_cons, beq_self_eq_true, List.all_nil, Bool.and_self, xC1, List.append_nil, Nat.mul_one, List.map_cons, List.map_nil, xCd, Nat.le_refl, AV.isCell, and_self, xBd, List.nil_append, List.drop_succ_cons, List.drop_nil, xBO, List.length_append, List.append_assoc, List.cons_append, xBT, xFm, xNk, List.getElem?_cons_succ, List.getElem?_cons_zero, xDl, List.take_nil, xDh, g2', xCG, Nat.reduceBEq, Nat.reduceAdd, htk, xAs, xBa, xCi, xCV, xAv, xH3, e1]
      · rw [e4 b hb, List.getElem?_append_left (by simp; omega), List.getElem?_set_ne (by omega), List.getElem?_append_left (by omega)]
end
end Go.Abs.Det

/- sub: all states. -/
namespace Go.Abs.Det
open Go Go.Abs
set_option linter.unusedSimpArgs false
set_option linter.unusedVariables false

def stT (d : Dfa) (n m l : Nat) : List AV := (List.range l).map fun k => .sl false n (xF4 d n m k n)
def fiS (d : Dfa) (l : Nat) : List Bool := (List.range l).map fun k => d.fin.getD k false
theorem xGo (d : Dfa) (n m l : Nat) : (stT d n m l).length = l := by simp [stT]
theorem xUf (d : Dfa) (n m k : Nat) : stT d n m (k + 1) = stT d n m k ++ [.sl false n (xF4 d n m k n)] := by
  unfold stT; rw [List.range_succ, List.map_append]; rfl
theorem xI7 (d : Dfa) (l : Nat) : (fiS d l).length = l := by simp [fiS]
theorem xUg (d : Dfa) (k : Nat) : fiS d (k + 1) = fiS d k ++ [d.fin.getD k false] := by
  unfold fiS; rw [List.range_succ, List.map_append]; rfl
theorem xPg {A T : xAu} {i : Nat} {X : Blk} (h : i < A.length) : (A.set i X ++ T)[i]? = some X := by
  rw [List.getElem?_append_left (by simpa using h), List.getElem?_set_self h]
theorem xUh {l : List Bool} (h : 0 < l.length) : List.take 1 (xCq l) = [AV.bool (l.getD 0 false)] := xKR (i := 0) h
theorem xMX (a b : List Bool) : xCq a ++ xCq b = xCq (a ++ b) := by simp [xCq]

inductive Under (d : Dfa) (n m l : Nat) (v2 em : Int) (G : xAu) : Prop
  | zero (h : l = 0) (h2 : G[2]? = some (.cells false false [.int .i64 v2, .int .i64 em, .sl true 0 [], .sl true 0 []]))
  | some (id f : Nat) (cs : List AV) (h : l ≠ 0) (h2 : G[2]? = some (.cells false false [.int .i64 v2, .int .i64 em, .own false id 0 l 1, .own false f 0 l 1]))
      (hi : G[id]? = some (.cells false false cs)) (hf : G[f]? = some (.cells false false (xCq (fiS d l)))) (i3 : 3 ≤ id) (f3 : 3 ≤ f) (hne : id ≠ f) (hl : cs.length = l)
      (he : ∀ (i : Nat) (c t : AV), cs[i]? = some c → (stT d n m l)[i]? = some t → Fz 2 G 3 c t ∧ ∀ q, 2 ≤ q → id ∉ bor q G c ∧ f ∉ bor q G c)

set_option maxHeartbeats 1000000 in
theorem xP4 {d : Dfa} {n m : Nat} {v2 em : Int} {x1 : Blk} (hn : 0 < n) (hn8 : n ≤ 8) (hm : m ≤ 8) (hnl : n ≤ d.next.length) (hv : IntKind.i64.wrap (1 * 2 ^ min v2.toNat IntKind.i64.bits) = (m : Nat)) (hv0 : 0 ≤ v2) : ∀ e l G, l + e = n → G[0]? = some (.cells false false d.cells) → G[1]? = some x1 → Under d n m l v2 em G →
    ∃ G', L.loop xLy xTm ⟨xLz (.int .i64 n) (.ptr 0 0) (.ptr 1 0) (.ptr 2 0) (.int .i64 (l : Nat)), G⟩ =
      some (.exit 0, ⟨xLz (.int .i64 n) (.ptr 0 0) (.ptr 1 0) (.ptr 2 0) (.int .i64 (n : Nat)), G'⟩) ∧ G'[1]? = some x1 ∧ Under d n m n v2 em G' := by
  intro e
  induction e with
  | zero =>
    intro l G h h0 h1 hU
    obtain rfl : l = n := by omega
    refine ⟨G, ?_, h1, hU⟩
    rw [xQJ]
    simp (maxSteps := 30000000) (disch := first | assumption | omega | (simp only [List.length_cons, List.length_nil, List.length_append, List.length_set, List.length_replicate, List.length_map, List.length_range, List.length_take, List.length_drop, List.all_cons, List.all_nil, AV.isCell, Bool.and_self, Bool.and_true, xAh, xAb, xAe, xAa, xAa, xAC] <;> omega) | rfl | decide) only [xH4, xAp, xAf, xAc, xAk, xAA, opv, List.getD_cons_succ, List.getD_cons_zero, xAq, List.set_cons_succ, List.set_cons_zero, xAi, xAy, xAz, Int.lt_irrefl, decide_false, xAl, xAg, xAj, xAd, xAo, xAn, Bool.false_eq_true, ↓reduceIte, xBt, xBc, xA3, xJB]
  | succ e ih =>
    intro l G h h0 h1 hU
    have hlt : (l : Int) < (n : Nat) := by omega
    have g3 : 3 ≤ G.length := by
      cases hU with
      | zero _ h2 => exact (List.getElem?_eq_some_iff.1 h2).1
      | some id f cs _ h2 => exact (List.getElem?_eq_some_iff.1 h2).1
    obtain ⟨w1, w2, h2⟩ : ∃ w1 w2, G[2]? = some (.cells false false [.int .i64 v2, .int .i64 em, w1, w2]) := by
      cases hU with
      | zero _ h2 => exact ⟨_, _, h2⟩
      | some id f cs _ h2 => exact ⟨_, _, h2⟩
    obtain ⟨G2, v', r1, r2, r3, r4⟩ := xUe (d := d) (n := n) (m := m) (l := l) (B := G.length) (v2 := v2) hn hn8 hm (by omega) (by omega) hv hv0 n 0 G (.sl true 0 []) (by omega) h0 h2 (Nat.le_refl _) (.inl ⟨rfl, rfl⟩)
    have fz := r2.fz
    rw [xEG] at fz
    have hz : (n == 0) = false := by rw [beq_eq_false_iff_ne]; omega
    rw [hz] at fz
    have fz' : Fz 2 G2 G.length v' (.sl false n (xF4 d n m l n)) := by
      rcases fz with q | q
      · exact q
      · have := xEG d n m l n; rw [q] at this; simp at this; omega
    obtain ⟨nid, rfl, hnid⟩ : ∃ nid, v' = .own false nid 0 n 1 ∧ nid < G2.length := by
      rcases r2 with ⟨q, _⟩ | ⟨nid, cs, q, q2, _⟩
      · have := xEG d n m l n; rw [q] at this; simp at this; omega
      · rw [xEG] at q
        exact ⟨nid, q, (List.getElem?_eq_some_iff.1 q2).1⟩
    clear fz r2
    simp only [Int.natCast_zero] at r1
    have hz0 : G2[0]? = some (.cells false false d.cells) := (r4 0 (by omega)).trans h0
    have hz1 : G2[1]? = some x1 := (r4 1 (by omega)).trans h1
    have hgd : ∀ b : Bool, d.fin.getD l false = b → True := fun _ _ => trivial
    cases hU with
    | zero hl0 h2' =>
      subst hl0
      have hz2 : G2[2]? = some (.cells false false [.int .i64 v2, .int .i64 em, .sl true 0 [], .sl true 0 []]) := (r4 2 (by omega)).trans h2'
      obtain ⟨H', hH⟩ : ∃ H' : xAu, H' = (((G2 ++ [Blk.cells false false [.own false nid 0 n 1], Blk.cells false false [.own false nid 0 n 1]]).set 2 (.cells false false [.int .i64 v2, .int .i64 em, .own false (G2.length + 1) 0 1 1, .sl true 0 []])) ++ [Blk.cells false false [.bool (d.fin.getD 0 false)]]).set 2 (.cells false false [.int .i64 v2, .int .i64 em, .own false (G2.length + 1) 0 1 1, .own false (G2.length + 2) 0 1 1]) := ⟨_, rfl⟩
      have same : ∀ b, b ≠ 2 → b < G2.length → H'[b]? = G2[b]? := fun b hb hb2 => by
        rw [hH, List.getElem?_set_ne (Ne.symm hb), List.getElem?_append_left (by simp; omega), List.getElem?_set_ne (Ne.symm hb), List.getElem?_append_left hb2]
      have hlen : H'.length = G2.length + 3 := by simp [hH]
      have hs2 : H'[2]? = some (.cells false false [.int .i64 v2, .int .i64 em, .own false (G2.length + 1) 0 1 1, .own false (G2.length + 2) 0 1 1]) := by rw [hH]; exact List.getElem?_set_self (by simp)
      have hs3 : H'[G2.length + 1]? = some (.cells false false [.own false nid 0 n 1]) := by
        rw [hH, List.getElem?_set_ne (by omega), List.getElem?_append_left (by simp), List.getElem?_set_ne (by omega)]
        exact xNk _ _ 1
      have hs4 : H'[G2.length + 2]? = some (.cells false false [.bool (d.fin.getD 0 false)]) := by
        rw [hH, List.getElem?_set_ne (by omega), List.getElem?_append_right (by simp)]
        simp
      have fzH : Fz 2 H' G.length (.own false nid 0 n 1) (.sl false n (xF4 d n m 0 n)) := fz'.frame (by omega) fun q hq b hb => by
        have := (fz' q hq).2 b hb
        exact same b (by omega) this.2
      have hU' : Under d n m 1 v2 em H' := .some (G2.length + 1) (G2.length + 2) [.own false nid 0 n 1] (by omega) hs2 hs3 (by rw [hs4]; rfl) (by omega) (by omega) (by omega) rfl (fun i c t hc ht => by
        have e0 : i = 0 := by
          cases i with
          | zero => rfl
          | succ i => simp at hc
        subst e0
        simp at hc
        subst hc
        have : t = .sl false n (xF4 d n m 0 n) := by simpa [stT] using ht.symm
        subst this
        refine ⟨fzH.low (by omega), fun q hq => ?_⟩
        have hb2 := (xDf q _ (fun b hb => by have := (fz' q hq).2 b hb; exact same b (by omega) this.2)).2
        rw [hb2]
        exact ⟨fun hm' => by have := (fz' q hq).2 _ hm'; omega, fun hm' => by have := (fz' q hq).2 _ hm'; omega⟩)
      obtain ⟨G', e1, e2, e3⟩ := ih 1 H' (by omega) (by rw [same 0 (by omega) (by omega)]; exact hz0) (by rw [same 1 (by omega) (by omega)]; exact hz1) hU'
      refine ⟨G', ?_, e2, e3⟩
      have hz2' := fun T => xA9 (X := T) hz2
      have hz0' := fun T => xA9 (X := T) hz0
      have s2 : ∀ (A : xAu) (x y : Blk), 2 < A.length → (A.set 2 x)[2]? = some x := fun A x y h => List.getElem?_set_self h
      unfold Dfa.cells at hz0 hz0'
      rw [hH] at e1
      simp only [Int.natCast_zero, Int.natCast_one] at hlt e1 r1 ⊢
      rw [xQJ]
      by_cases c : 0 < d.fin.length
      · have c' : (0 : Int) < (d.fin.length : Nat) := by omega
        simp (maxSteps := 30000000) (disch := first | assumption | omega | (simp only [List.length_cons, List.length_nil, List.length_append, List.length_set, List.length_replicate, List.length_map, List.length_range, List.length_take, List.length_drop, List.all_cons, List.all_nil, AV.isCell, Bool.and_self, Bool.and_true, xAh, xAb, xAe, xAa, xAa, xAC] <;> omega) | rfl | decide) only [xH4, xAp, xAf, xAc, xAk, xAA, opv, List.getD_cons_succ, List.getD_cons_zero, xAq, List.set_cons_succ, List.set_cons_zero, xAi, xAy, xAz, hlt, decide_true, xAl, xAg, xAj, xAd, xAo, xAn, ↓reduceIte, xAx, xAr, xA6, xH3, r1, xAS, xAV, xAB, Nat.zero_add, xAJ, xA1, hz2, xAt, List.drop_succ_cons, List.drop_zero, List.take_succ_cons, List.take_zero, xAO, xBP, AV.cells, List.all_cons, List.length_cons, List.length_nil, beq_self_eq_true, List.all_nil, Bool.and_self, xC1, List.append_nil, Nat.mul_one, List.map_cons, List.map_nil, xCd, Nat.le_refl, AV.isCell, and_self, xBd, List.nil_append, List.drop_nil, xBO, xCR, xBT, xFm, xCM, List.getElem?_cons_zero, xDl, List.take_nil, xDK, Nat.reduceBEq, List.length_append, List.append_assoc, List.cons_append, xA4, xBE, hz2', xAX, Nat.reduceAdd, xAK, xBl, xBI, xA5, xBf, xBY, xBq, xBC, xBo, xBR, List.getElem?_set_self, xCx, List.getElem?_set_ne, hz0', xIy, xBk, xA8, xEa, c', xCl, xB9, xBe, xBn, xCt, xBy, xAM, xAD, xAZ, xAY, Int.toNat_zero, xBj, xUh, xBb, xAN, xB5, xBL, List.flatMap_cons, xFP, List.flatMap_nil, List.isEmpty_nil, List.mapM_cons, xB2, List.mapM_nil, Option.pure_def, Option.bind_eq_bind, Option.bind_some, xB6, xDk, List.length_set, xPg, xAs, xBa, Int.zero_add, xCV, xAv, xJB, e1]
      · have c' : ¬ (0 : Int) < (d.fin.length : Nat) := by omega
        have hgd : d.fin.getD 0 false = false := by
          rw [List.getD_eq_getElem?_getD, List.getElem?_eq_none (by omega)]; rfl
        rw [hgd] at e1
        simp (maxSteps := 30000000) (disch := first | assumption | omega | (simp only [List.length_cons, List.length_nil, List.length_append, List.length_set, List.length_replicate, List.length_map, List.length_range, List.length_take, List.length_drop, List.all_cons, List.all_nil, AV.isCell, Bool.and_self, Bool.and_true, xAh, xAb, xAe, xAa, xAa, xAC] <;> omega) | rfl | decide) only [xH4, xAp, xAf, xAc, xAk, xAA, opv, List.getD_cons_succ, List.getD_cons_zero, xAq, List.set_cons_succ, List.set_cons_zero, xAi, xAy, xAz, hlt, decide_true, xAl, xAg, xAj, xAd, xAo, xAn, ↓reduceIte, xAx, xAr, xA6, xH3, r1, xAS, xAV, xAB, Nat.zero_add, xAJ, xA1, hz2, xAt, List.drop_succ_cons, List.drop_zero, List.take_succ_cons, List.take_zero, xAO, xBP, AV.cells, List.all_cons, List.length_cons, List.length_nil, beq_self_eq_true, List.all_nil, Bool.and_self, xC1, List.append_nil, Nat.mul_one, List.map_cons, List.map_nil, xCd, Nat.le_refl, AV.isCell, and_self, xBd, List.nil_append, List.drop_nil, xBO, xCR, xBT, xFm, xCM, List.getElem?_cons_zero, xDl, List.take_nil, xDK, Nat.reduceBEq, List.length_append, List.append_assoc, List.cons_append, xA4, xBE, hz2', xAX, Nat.reduceAdd, xAK, xBl, xBI, xA5, xBf, xBY, xBq, xBC, xBo, xBR, List.getElem?_set_self, xCx, List.getElem?_set_ne, hz0', xIy, xBk, xA8, xEa, c', decide_false, xCl, xB9, Bool.false_eq_true, xCy, xBe, xBn, xCt, xBy, xAM, xAD, xBb, xAN, xB5, xBL, List.flatMap_cons, xFP, List.flatMap_nil, List.isEmpty_nil, List.mapM_cons, xB2, List.mapM_nil, Option.pure_def, Option.bind_eq_bind, Option.bind_some, xB6, xDk, List.length_set, xPg, xAs, xBa, Int.zero_add, xCV, xAv, xJB, e1]
    | some id f cs hl0 h2' hi hf i3 f3 hne hl he =>
      have hidl := (List.getElem?_eq_some_iff.1 hi).1
      have hfl := (List.getElem?_eq_some_iff.1 hf).1
      have hz2 : G2[2]? = some (.cells false false [.int .i64 v2, .int .i64 em, .own false id 0 l 1, .own false f 0 l 1]) := (r4 2 (by omega)).trans h2'
      have hzi : G2[id]? = some (.cells false false cs) := (r4 id hidl).trans hi
      have hzf : G2[f]? = some (.cells false false (xCq (fiS d l))) := (r4 f hfl).trans hf
      obtain ⟨X, hX⟩ : ∃ X, X = Blk.cells false false [.int .i64 v2, .int .i64 em, .own false (G2.length + 1) 0 (l + 1) 1, .own false f 0 l 1] := ⟨_, rfl⟩
      obtain ⟨Y, hY⟩ : ∃ Y, Y = Blk.cells false false [.int .i64 v2, .int .i64 em, .own false (G2.length + 1) 0 (l + 1) 1, .own false (G2.length + 2) 0 (l + 1) 1] := ⟨_, rfl⟩
      obtain ⟨H', hH⟩ : ∃ H' : xAu, H' = (((((G2 ++ [Blk.cells false false [.own false nid 0 n 1]]).set id .dead) ++ [Blk.cells false false (cs ++ [.own false nid 0 n 1])]).set 2 X).set f .dead ++ [Blk.cells false false (xCq (fiS d l ++ [d.fin.getD l false]))]).set 2 Y := ⟨_, rfl⟩
      have same : ∀ b, b ≠ 2 → b ≠ id → b ≠ f → b < G2.length → H'[b]? = G2[b]? := fun b hb hbi hbf hb2 => by
        rw [hH, List.getElem?_set_ne (Ne.symm hb), List.getElem?_append_left (by simp; omega), List.getElem?_set_ne (Ne.symm hbf), List.getElem?_set_ne (Ne.symm hb), List.getElem?_append_left (by simp; omega), List.getElem?_set_ne (Ne.symm hbi), List.getElem?_append_left hb2]
      have hlen : H'.length = G2.length + 3 := by simp [hH]
      have hs2 : H'[2]? = some Y := by rw [hH]; exact List.getElem?_set_self (by simp)
      have hs3 : H'[G2.length + 1]? = some (.cells false false (cs ++ [.own false nid 0 n 1])) := by
        rw [hH, List.getElem?_set_ne (by omega), List.getElem?_append_left (by simp), List.getElem?_set_ne (by omega), List.getElem?_set_ne (by omega), List.getElem?_append_right (by simp)]
        simp
      have hs4 : H'[G2.length + 2]? = some (.cells false false (xCq (fiS d (l + 1)))) := by
        rw [hH, List.getElem?_set_ne (by omega), List.getElem?_append_right (by simp), xUg]
        simp
      have fzH : Fz 2 H' G.length (.own false nid 0 n 1) (.sl false n (xF4 d n m l n)) := fz'.frame (by omega) fun q hq b hb => by
        have := (fz' q hq).2 b hb
        exact same b (by omega) (by omega) (by omega) this.2
      have hU' : Under d n m (l + 1) v2 em H' := .some (G2.length + 1) (G2.length + 2) (cs ++ [.own false nid 0 n 1]) (by omega) (by rw [hs2, hY]) hs3 hs4 (by omega) (by omega) (by omega) (by simp [hl]) (fun i c t hc ht => by
        rw [xUf] at ht
        by_cases hil : i < cs.length
        · rw [List.getElem?_append_left hil] at hc
          rw [List.getElem?_append_left (by rw [xGo]; omega)] at ht
          obtain ⟨k1, k2⟩ := he i c t hc ht
          have hG2 : ∀ q, 2 ≤ q → ∀ b ∈ bor q G c, H'[b]? = G[b]? := fun q hq b hb => by
            have hb' := (k1 q hq).2 b hb
            have hk := k2 q hq
            rw [same b (by omega) (fun e => hk.1 (e ▸ hb)) (fun e => hk.2 (e ▸ hb)) (by omega)]
            exact r4 b hb'.2
          refine ⟨k1.frame (by omega) hG2, fun q hq => ?_⟩
          rw [(xDf q c (hG2 q hq)).2]
          exact ⟨fun hm' => by have := (k1 q hq).2 _ hm'; omega, fun hm' => by have := (k1 q hq).2 _ hm'; omega⟩
        · rw [List.getElem?_append_right (by omega)] at hc
          rw [List.getElem?_append_right (by rw [xGo]; omega), xGo, ← hl] at ht
          have e0 : i - cs.length = 0 := by
            cases e : i - cs.length with
            | zero => rfl
            | succ j => rw [e] at hc; simp at hc
          rw [e0] at hc ht
          simp at hc ht
          subst hc; subst ht
          refine ⟨by rw [hl]; exact fzH.low (by omega), fun q hq => ?_⟩
          have hb2 := (xDf q _ (fun b hb => by have := (fz' q hq).2 b hb; exact same b (by omega) (by omega) (by omega) this.2)).2
          rw [hb2]
          exact ⟨fun hm' => by have := (fz' q hq).2 _ hm'; omega, fun hm' => by have := (fz' q hq).2 _ hm'; omega⟩)
      obtain ⟨G', e1, e2, e3⟩ := ih (l + 1) H' (by omega) (by rw [same 0 (by omega) (by omega) (by omega) (by omega)]; exact hz0) (by rw [same 1 (by omega) (by omega) (by omega) (by omega)]; exact hz1) hU'
      refine ⟨G', ?_, e2, e3⟩
      have hz2' := fun T => xA9 (X := T) hz2
      have hz0' := fun T => xA9 (X := T) hz0
      have hzi' := fun T => xA9 (X := T) hzi
      have q1 : ∀ T T' : xAu, ((G2 ++ T).set id .dead ++ T')[2]? = some (.cells false false [.int .i64 v2, .int .i64 em, .own false id 0 l 1, .own false f 0 l 1]) := fun T T' => xA9 (by rw [List.getElem?_set_ne (by omega)]; exact xA9 hz2)
      have q0 : ∀ (T T' : xAu) (Z : Blk), (((G2 ++ T).set id .dead ++ T').set 2 Z)[0]? = some (.cells false false d.cells) := fun T T' Z => by
        rw [List.getElem?_set_ne (by omega)]
        exact xA9 (by rw [List.getElem?_set_ne (by omega)]; exact xA9 hz0)
      have q2 : ∀ (T T' : xAu) (Z : Blk), (((G2 ++ T).set id .dead ++ T').set 2 Z)[f]? = some (.cells false false (xCq (fiS d l))) := fun T T' Z => by
        rw [List.getElem?_set_ne (by omega)]
        exact xA9 (by rw [List.getElem?_set_ne (by omega)]; exact xA9 hzf)
      have q4 : ∀ (T T' : xAu) (Z : Blk), (((G2 ++ T).set id .dead ++ T').set 2 Z)[2]? = some Z := fun T T' Z => List.getElem?_set_self (by simp; omega)
      have q3 : ∀ (T T' T2 : xAu) (Z : Blk), ((((G2 ++ T).set id .dead ++ T').set 2 Z).set f .dead ++ T2)[2]? = some Z := fun T T' T2 Z => xA9 (by rw [List.getElem?_set_ne (by omega)]; exact q4 T T' Z)
      have htk : List.take l cs = cs := List.take_of_length_le (by omega)
      have htf : List.take l (xCq (fiS d l)) = xCq (fiS d l) := List.take_of_length_le (by rw [xAC, xI7]; exact Nat.le_refl _)
      have hbl : (xCq (fiS d l)).length = l := by rw [xAC, xI7]
      have hsn : ∀ b : Bool, xCq (fiS d l) ++ [AV.bool b] = xCq (fiS d l ++ [b]) := fun b => by rw [← xMX]; rfl
      unfold Dfa.cells at hz0 hz0' q0
      rw [hH, hX, hY] at e1
      rw [xQJ]
      by_cases c : l < d.fin.length
      · have c' : ((l : Nat) : Int) < (d.fin.length : Nat) := by omega
        simp (maxSteps := 30000000) (disch := first | assumption | omega | (simp only [List.length_cons, List.length_nil, List.length_append, List.length_set, List.length_replicate, List.length_map, List.length_range, List.length_take, List.length_drop, List.all_cons, List.all_nil, AV.isCell, Bool.and_self, Bool.and_true, xAh, xAb, xAe, xAa, xAa, xAC] <;> omega) | rfl | decide) only [xH4, xAp, xAf, xAc, xAk, xAA, opv, List.getD_cons_succ, List.getD_cons_zero, xAq, List.set_cons_succ, List.set_cons_zero, xAi, xAy, xAz, hlt, decide_true, xAl, xAg, xAj, xAd, xAo, xAn, ↓reduceIte, xAx, xAr, xA6, xH3, r1, xAS, xAV, xAB, Nat.zero_add, xAJ, xA1, hz2, xAt, List.drop_succ_cons, List.drop_zero, List.take_succ_cons, List.take_zero, xAO, xBP, AV.cells, List.all_cons, List.length_cons, List.length_nil, beq_self_eq_true, List.all_nil, Bool.and_self, xC1, List.append_nil, Nat.mul_one, List.map_cons, List.map_nil, xCd, Nat.le_refl, AV.isCell, and_self, xBd, List.nil_append, List.drop_nil, xBO, xCR, xBT, xFm, xCM, List.getElem?_cons_zero, xDl, List.take_nil, xDh, hzi', xCG, Nat.reduceBEq, List.length_append, htk, xA4, xBE, q1, xAX, List.cons_append, Nat.reduceAdd, xAK, xBl, xBI, xA5, xBf, xBY, xBq, xBC, xBo, xBR, q4, xCx, q0, xIy, xBk, xA8, xEa, c', xCl, xB9, xBe, xBn, xCt, xBy, xAM, xAD, xAZ, xAY, Int.toNat_natCast, xBj, xKR, xBb, xAN, xB5, xBL, List.flatMap_cons, xFP, List.flatMap_nil, List.isEmpty_nil, List.mapM_cons, xB2, List.mapM_nil, Option.pure_def, Option.bind_eq_bind, Option.bind_some, xB6, xDk, q2, List.length_set, htf, hsn, q3, xAs, xBa, xCi, xCV, xAv, xJB, e1]
      · have c' : ¬ ((l : Nat) : Int) < (d.fin.length : Nat) := by omega
        have hgd : d.fin.getD l false = false := by
          rw [List.getD_eq_getElem?_getD, List.getElem?_eq_none (by omega)]; rfl
        rw [hgd] at e1
        simp (maxSteps := 30000000) (disch := first | assumption | omega | (simp only [List.length_cons, List.length_nil, List.length_append, List.length_set, List.length_replicate, List.length_map, List.length_range, List.length_take, List.length_drop, List.all_cons, List.all_nil, AV.isCell, Bool.and_self, Bool.and_true, xAh, xAb, xAe, xAa, xAa, xAC] <;> omega) | rfl | decide) only [xH4, xAp, xAf, xAc, xAk, xAA, opv, List.getD_cons_succ, List.getD_cons_zero, xAq, List.set_cons_succ, List.set_cons_zero, xAi, xAy, xAz, hlt, decide_true, xAl, xAg, xAj, xAd, xAo, xAn, ↓reduceIte, xAx, xAr, xA6, xH3, r1, xAS, xAV, xAB, Nat.zero_add, xAJ, xA1, hz2, xAt, List.drop_succ_cons, List.drop_zero, List.take_succ_cons, List.take_zero, xAO, xBP, AV.cells, List.all_cons, List.length_cons, List.length_nil, beq_self_eq_true, List.all_nil, Bool.and_self, xC1, List.append_nil, Nat.mul_one, List.map_cons, List.map_nil, xCd, Nat.le_refl, AV.isCell, and_self, xBd, List.nil_append, List.drop_nil, xBO, xCR, xBT, xFm, xCM, List.getElem?_cons_zero, xDl, List.take_nil, xDh, hzi', xCG, Nat.reduceBEq, List.length_append, htk, xA4, xBE, q1, xAX, List.cons_append, Nat.reduceAdd, xAK, xBl, xBI, xA5, xBf, xBY, xBq, xBC, xBo, xBR, q4, xCx, q0, xIy, xBk, xA8, xEa, c', decide_false, xCl, xB9, Bool.false_eq_true, xCy, xBe, xBn, xCt, xBy, xAM, xAD, xBb, xAN, xB5, xBL, List.flatMap_cons, xFP, List.flatMap_nil, List.isEmpty_nil, List.mapM_cons, xB2, List.mapM_nil, Option.pure_def, Option.bind_eq_bind, Option.bind_some, xB6, xDk, q2, List.length_set, htf, hsn, q3, xAs, xBa, xCi, xCV, xAv, xJB, e1]
end Go.Abs.Det

/- sub. -/
namespace Go.Abs.Det
open Go Go.Abs
set_option linter.unusedSimpArgs false
set_option linter.unusedVariables false

theorem xKf (l : List Bool) : (xCq l).all xCB = true := by
  induction l with
  | nil => rfl
  | cons a l ih => simp [xCq, xCB]

theorem xUi {d : Dfa} {n m l : Nat} {v2 em : Int} {G : xAu} (h : Under d n m l v2 em G) (hl : l ≠ 0) :
    ∃ i f : Nat, G[2]? = some (Blk.cells false false [.int .i64 v2, .int .i64 em, .own false i 0 l 1, .own false f 0 l 1]) ∧ Fz 3 G 3 (.own false i 0 l 1) (.sl false l (stT d n m l)) ∧ Fz 1 G 3 (.own false f 0 l 1) (.sl false l (xCq (fiS d l))) := by
  cases h with
  | zero h0 => exact absurd h0 hl
  | some id f cs h h2 hi hf i3 f3 hne hcl he =>
    refine ⟨_, _, h2, ?_, ?_⟩
    · have hg : Grow 2 G 3 (.own false id 0 l 1) (stT d n m l) := .inr ⟨id, cs, by rw [xGo], hi, i3, by rw [xGo]; exact hcl, fun i c t hc ht => ⟨(he i c t hc ht).1, fun q hq => ((he i c t hc ht).2 q hq).1⟩⟩
      have := hg.fz
      rw [xGo] at this
      have hz : (l == 0) = false := by rw [beq_eq_false_iff_ne]; exact hl
      rw [hz] at this
      rcases this with q | q
      · exact q
      · have := xGo d n m l; rw [q] at this; exact absurd this.symm hl
    · have := Fz.row (B := 3) (es := 1) (n := l) hf (xKf _) (by rw [xAC, xI7, Nat.mul_one]) f3
      exact this

def two (v : Int) : Nat := 2 ^ v.toNat
def yAt (d : Dfa) : AV :=
  if d.next.length = 0 then .agg [.int .i64 (nrm d.vars 3), .int .i64 0, .sl true 0 [], .sl true 0 []] else
    .agg [.int .i64 (nrm d.vars 3), .int .i64 (nrm d.empty (min 8 d.next.length : Nat)), .sl false (min 8 d.next.length) (stT d (min 8 d.next.length) (two (nrm d.vars 3)) (min 8 d.next.length)), .sl false (min 8 d.next.length) (xCq (fiS d (min 8 d.next.length)))]

theorem xHW {fn : AFunc} {args : List AV} {r v : AV} {H : xAu} (h : xBN L fn args [] = some (r, H)) (hf : frz xBL H r = some v) : xBw L fn args = some v := by
  unfold xBw; rw [h]; exact hf

set_option maxHeartbeats 1000000 in
theorem yC9 (d : Dfa) : L.pcall 42 [d.av, .int .i64 8] = some (yAt d) := by
  have b3 := xKd d.vars (n := 3) (by omega)
  have t3 := xI6 d.vars (n := 3) (by omega)
  have e8 : min (8 : Int) (d.next.length : Nat) = ((min 8 d.next.length : Nat) : Int) := by omega
  unfold yAt
  have hnr : nrm d.vars 3 = (d.vars.tmod 3 + 3).tmod 3 := rfl
  generalize hv2 : nrm d.vars 3 = v2 at *
  generalize hq : d.vars.tmod 3 = q at *
  have hq2 : (q + 3).tmod 3 = v2 := hnr.symm
  by_cases h0 : d.next.length = 0
  · rw [if_pos h0]
    have e80 : min (8 : Int) (d.next.length : Nat) = 0 := by omega
    unfold Dfa.av Dfa.cells
    rw [yDP, a42, xA7]
    simp (maxSteps := 30000000) (disch := first | assumption | omega | (simp only [List.length_cons, List.length_nil, List.length_append, List.length_set, List.length_replicate, List.length_map, List.length_range, List.length_take, List.length_drop, List.all_cons, List.all_nil, AV.isCell, Bool.and_self, Bool.and_true, xAh, xAb, xAe, xAa, xAa, xAC] <;> omega) | rfl | decide) only [xAU, List.length_cons, List.length_nil, Nat.zero_add, Nat.reduceAdd, Nat.reduceSub, xCL, List.cons_append, List.nil_append, xAp, xAf, xAc, xAk, xBz, AV.cells, opv, List.getD_cons_zero, List.all_cons, AV.isCell, List.all_nil, Bool.and_self, ↓reduceIte, xAq, List.set_cons_succ, List.set_cons_zero, xAi, xAg, xAj, xAd, xAA, List.getD_cons_succ, xAV, xAB, xAl, xAJ, xA1, List.getElem?_cons_zero, xAt, List.drop_succ_cons, List.drop_zero, List.take_succ_cons, List.take_zero, xAO, xBk, xA8, xKp, xHN, e80, Nat.add_zero, xAy, xNo, hq, xBa, xCV, hq2, xCv, beq_self_eq_true, List.map_cons, List.map_nil, xCd, Nat.reduceLeDiff, and_self, xBd, Option.map_some, xA4, xBE, List.getElem?_cons_succ, xAX, List.drop_nil, List.append_nil, xAK, xBl, xBM, decide_true, xAo, xAn, List.take_nil, xBH, xAW, xBu, xAI, xAR, xEh, xDm, xHJ, xAw, xAQ, xBL, xCA, List.mapM_cons, xA0, xCa, List.mapM_nil, Option.pure_def, Option.bind_eq_bind, Option.bind_some]
  · rw [if_neg h0]
    have hn0 : 0 < min 8 d.next.length := by omega
    have hn8 : min 8 d.next.length ≤ 8 := by omega
    have hnl : min 8 d.next.length ≤ d.next.length := by omega
    generalize min 8 d.next.length = n at *
    have te := xI6 d.empty (n := (n : Int)) (by omega)
    have hne : nrm d.empty (n : Int) = (d.empty.tmod (n : Int) + (n : Int)).tmod (n : Int) := rfl
    generalize nrm d.empty (n : Int) = em at *
    generalize hqe : d.empty.tmod (n : Int) = qe at *
    have hqe2 : (qe + (n : Int)).tmod (n : Int) = em := hne.symm
    have hm : two v2 ≤ 8 ∧ IntKind.i64.wrap (1 * 2 ^ min v2.toNat IntKind.i64.bits) = (two v2 : Nat) := by
      have : v2 = 0 ∨ v2 = 1 ∨ v2 = 2 := by omega
      rcases this with rfl | rfl | rfl
      · exact ⟨by decide, by decide⟩
      · exact ⟨by decide, by decide⟩
      · exact ⟨by decide, by decide⟩
    obtain ⟨G', e1, e2, e3⟩ := xP4 (d := d) (n := n) (m := two v2) (v2 := v2) (em := em) (x1 := .cells false false [.int .i64 0, .int .i64 0, .sl true 0 [], .sl true 0 []]) hn0 hn8 hm.1 hnl hm.2 (by omega) n 0
      [.cells false false d.cells, .cells false false [.int .i64 0, .int .i64 0, .sl true 0 [], .sl true 0 []], .cells false false [.int .i64 v2, .int .i64 em, .sl true 0 [], .sl true 0 []]] (by omega) rfl rfl (.zero rfl rfl)
    obtain ⟨i1, i2, g2, f1, f2⟩ := xUi e3 (by omega)
    have hnn : ((n : Nat) : Int) ≠ 0 := by omega
    have hlen : 3 ≤ G'.length := (List.getElem?_eq_some_iff.1 g2).1
    unfold Dfa.av
    unfold Dfa.cells at e1 ⊢
    simp only [Int.natCast_zero] at e1
    have hb : xBN L a42 [.agg [.int .i64 d.vars, .int .i64 d.empty, .sl d.z d.next.length (d.next.map xS7), .sl d.zf d.fin.length (xCq d.fin)], .int .i64 8] [] =
        some (.agg [.int .i64 v2, .int .i64 em, AV.own false i1 0 n 1, .own false i2 0 n 1], G'.set 1 (.cells false false [.int .i64 v2, .int .i64 em, AV.own false i1 0 n 1, .own false i2 0 n 1])) := by
      have s1 : ∀ X : Blk, (G'.set 1 X)[1]? = some X := fun X => List.getElem?_set_self (by omega)
      rw [a42]
      simp (maxSteps := 30000000) (disch := first | assumption | omega | (simp only [List.length_cons, List.length_nil, List.length_append, List.length_set, List.length_replicate, List.length_map, List.length_range, List.length_take, List.length_drop, List.all_cons, List.all_nil, AV.isCell, Bool.and_self, Bool.and_true, xAh, xAb, xAe, xAa, xAa, xAC] <;> omega) | rfl | decide) only [xAU, List.length_cons, List.length_nil, Nat.zero_add, Nat.reduceAdd, Nat.reduceSub, xCL, List.cons_append, List.nil_append, xAp, xAf, xAc, xAk, xBz, AV.cells, opv, List.getD_cons_zero, List.all_cons, AV.isCell, List.all_nil, Bool.and_self, ↓reduceIte, xAq, List.set_cons_succ, List.set_cons_zero, xAi, xAg, xAj, xAd, xAA, List.getD_cons_succ, xAV, xAB, xAl, xAJ, xA1, List.getElem?_cons_zero, xAt, List.drop_succ_cons, List.drop_zero, List.take_succ_cons, List.take_zero, xAO, xBk, xA8, xKp, xHN, e8, Nat.add_zero, xAy, xNo, hq, xBa, xCV, hq2, xCv, beq_self_eq_true, List.map_cons, List.map_nil, xCd, Nat.reduceLeDiff, and_self, xBd, Option.map_some, xA4, xBE, List.getElem?_cons_succ, xAX, List.drop_nil, List.append_nil, xAK, xBl, xBM, hnn, decide_false, xAo, xAn, Bool.false_eq_true, xAx, hqe, hqe2, xAr, xA6, xJB, e1, xAS, g2, List.take_nil, xBH, e2, xAW, xAI, xAR, xEh, s1, xDm, xHJ, xAw]
    rw [yDP]
    refine xHW hb ?_
    have z1 := f1.frame (G' := G'.set 1 (.cells false false [.int .i64 v2, .int .i64 em, AV.own false i1 0 n 1, .own false i2 0 n 1])) (by simp) (fun q hq b hb => by
      have := (f1 q hq).2 b hb
      rw [List.getElem?_set_ne (by omega)])
    have z2 := f2.frame (G' := G'.set 1 (.cells false false [.int .i64 v2, .int .i64 em, AV.own false i1 0 n 1, .own false i2 0 n 1])) (by simp) (fun q hq b hb => by
      have := (f2 q hq).2 b hb
      rw [List.getElem?_set_ne (by omega)])
    show ((([AV.int .i64 v2, .int .i64 em, AV.own false i1 0 n 1, .own false i2 0 n 1]).mapM (frz 5 _)).map AV.agg) = _
    simp only [List.mapM_cons, List.mapM_nil, xA0, (z1 5 (by omega)).1, (z2 5 (by omega)).1, Option.pure_def, Option.bind_eq_bind, Option.bind_some, Option.map_some]
end Go.Abs.Det

/- Automata as data; Check of a valid one. -/
namespace Go.Abs.Det
open Go Go.Abs
set_option linter.unusedSimpArgs false
set_option linter.unusedVariables false

structure Da where
  vars : Int
  empty : Int
  next : List (List (List Int))
  fin : List Bool
def xCF (l : List (List Int)) : AV := .sl false l.length (l.map xFk)
def Da.cells (D : Da) : List AV := [.int .i64 D.vars, .int .i64 D.empty, .sl false D.next.length (D.next.map xCF), .sl false D.fin.length (xCq D.fin)]
def Da.av (D : Da) : AV := .agg D.cells
theorem xI8 {l : List (List Int)} {i : Nat} (h : i < l.length) : List.take 1 (List.drop i (l.map xFk)) = [xFk (l.getD i [])] := xCe _ _ h
theorem xFI {l : List (List (List Int))} {i : Nat} (h : i < l.length) : List.take 1 (List.drop i (l.map xCF)) = [xCF (l.getD i [])] := xCe _ _ h

structure Va (D : Da) : Prop where
  v0 : 0 ≤ D.vars
  v3 : D.vars ≤ 3
  n0 : 0 < D.next.length
  n64 : D.next.length ≤ 64
  fl : D.fin.length = D.next.length
  e0 : 0 ≤ D.empty
  en : D.empty < D.next.length
  rl : ∀ rows ∈ D.next, rows.length = D.next.length
  cl : ∀ rows ∈ D.next, ∀ row ∈ rows, row.length = two D.vars
  ce : ∀ rows ∈ D.next, ∀ row ∈ rows, ∀ s ∈ row, 0 ≤ s ∧ s < D.next.length

theorem xBF {α : Type} {l : List α} {i : Nat} {a : α} (h : i < l.length) : l.getD i a ∈ l := by
  rw [List.getD_eq_getElem?_getD, List.getElem?_eq_getElem h]
  exact List.getElem_mem _
theorem xDy {v : Int} (h : v ≤ 3) : two v ≤ 8 ∧ 0 < two v := by
  have : v.toNat = 0 ∨ v.toNat = 1 ∨ v.toNat = 2 ∨ v.toNat = 3 := by omega
  unfold two
  rcases this with e | e | e | e <;> rw [e] <;> decide
theorem xI9 {v : Int} (h0 : 0 ≤ v) (h : v ≤ 3) : IntKind.i64.wrap (1 * 2 ^ min v.toNat IntKind.i64.bits) = (two v : Nat) := by
  have : v = 0 ∨ v = 1 ∨ v = 2 ∨ v = 3 := by omega
  rcases this with rfl | rfl | rfl | rfl <;> decide

theorem xR5 {k : Nat} {s : Int} {n : Nat} {H : xAu} (h : H[k]? = some (.cells false false [.int .i64 (n : Nat)])) : L.icall (.func 52 [.ptr k 0]) [.int .i64 s] H = some (.bool (decide (0 ≤ s ∧ s < (n : Nat))), H) := by
  rw [yEL, a52]
  by_cases c : 0 ≤ s
  · by_cases c2 : s < (n : Nat)
    · rw [decide_eq_true ⟨c, c2⟩]
      simp (maxSteps := 30000000) (disch := first | assumption | omega | (simp only [List.length_cons, List.length_nil, List.length_append, List.length_set, List.length_replicate, List.length_map, List.length_range, List.length_take, List.length_drop, List.all_cons, List.all_nil, AV.isCell, Bool.and_self, Bool.and_true, xAh, xAb, xAe, xAa, xAa, xAC, List.length_map] <;> omega) | rfl | decide) only [List.cons_append, List.nil_append, xAU, List.length_cons, List.length_nil, Nat.zero_add, Nat.reduceAdd, Nat.reduceSub, xCL, xAp, xAf, xAc, xAk, xAA, opv, xAq, List.set_cons_succ, List.set_cons_zero, xAi, xAg, xAj, xAd, List.getD_cons_zero, xAy, List.getD_cons_succ, xCz, c, decide_true, xAl, xAM, xAD, ↓reduceIte, xAJ, xA1, h, xAt, List.drop_zero, List.take_succ_cons, List.take_nil, xAO, xAz, c2, xBb, xAN, xAW, xAI, xAR, xA2, xAw]
    · rw [decide_eq_false (by omega)]
      simp (maxSteps := 30000000) (disch := first | assumption | omega | (simp only [List.length_cons, List.length_nil, List.length_append, List.length_set, List.length_replicate, List.length_map, List.length_range, List.length_take, List.length_drop, List.all_cons, List.all_nil, AV.isCell, Bool.and_self, Bool.and_true, xAh, xAb, xAe, xAa, xAa, xAC, List.length_map] <;> omega) | rfl | decide) only [List.cons_append, List.nil_append, xAU, List.length_cons, List.length_nil, Nat.zero_add, Nat.reduceAdd, Nat.reduceSub, xCL, xAp, xAf, xAc, xAk, xAA, opv, xAq, List.set_cons_succ, List.set_cons_zero, xAi, xAg, xAj, xAd, List.getD_cons_zero, xAy, List.getD_cons_succ, xCz, c, decide_true, xAl, xAM, xAD, ↓reduceIte, xAJ, xA1, h, xAt, List.drop_zero, List.take_succ_cons, List.take_nil, xAO, xAz, c2, decide_false, xBb, xAN, xAW, xAI, xAR, xA2, xAw]
  · rw [decide_eq_false (by omega)]
    simp (maxSteps := 30000000) (disch := first | assumption | omega | (simp only [List.length_cons, List.length_nil, List.length_append, List.length_set, List.length_replicate, List.length_map, List.length_range, List.length_take, List.length_drop, List.all_cons, List.all_nil, AV.isCell, Bool.and_self, Bool.and_true, xAh, xAb, xAe, xAa, xAa, xAC, List.length_map] <;> omega) | rfl | decide) only [List.cons_append, List.nil_append, xAU, List.length_cons, List.length_nil, Nat.zero_add, Nat.reduceAdd, Nat.reduceSub, xCL, xAp, xAf, xAc, xAk, xAA, opv, xAq, List.set_cons_succ, List.set_cons_zero, xAi, xAg, xAj, xAd, List.getD_cons_zero, xAy, List.getD_cons_succ, xCz, c, decide_false, xAl, xAM, xAD, Bool.false_eq_true, ↓reduceIte, xCy, xBb, xAN, xAW, xAI, xAR, xA2, xAw]
end Go.Abs.Det

/- Check of a valid automaton. -/
namespace Go.Abs.Det
open Go Go.Abs
set_option linter.unusedSimpArgs false
set_option linter.unusedVariables false

section
variable {D : Da} {H : xAu} {s43 s44 s45 s53 s54 s55 : AV}

theorem xXw {row : List Int} (hl : row.length ≤ 8) (h1 : H[1]? = some (.cells false false [.int .i64 (D.next.length : Nat)])) (hs : ∀ s ∈ row, 0 ≤ s ∧ s < D.next.length) : ∀ e i, i + e = row.length →
    L.loop xLa xTb ⟨xLb (.ptr 0 0) (.int .i64 0) (.ptr 1 0) (.func 52 [.ptr 1 0]) s43 s44 s45 s53 s54 s55 (.sl false row.length (xCh row)) (.int .i64 (row.length : Nat)) (.int .i64 (i : Nat)), H⟩ =
      some (.exit 5, ⟨xLb (.ptr 0 0) (.int .i64 0) (.ptr 1 0) (.func 52 [.ptr 1 0]) s43 s44 s45 s53 s54 s55 (.sl false row.length (xCh row)) (.int .i64 (row.length : Nat)) (.int .i64 (row.length : Nat)), H⟩) := by
  intro e
  induction e with
  | zero =>
    intro i h
    obtain rfl : i = row.length := by omega
    rw [xU9]
    simp (maxSteps := 30000000) (disch := first | assumption | omega | (simp only [List.length_cons, List.length_nil, List.length_append, List.length_set, List.length_replicate, List.length_map, List.length_range, List.length_take, List.length_drop, List.all_cons, List.all_nil, AV.isCell, Bool.and_self, Bool.and_true, xAh, xAb, xAe, xAa, xAa, xAC, List.length_map] <;> omega) | rfl | decide) only [xOl, xAp, xAf, xAc, xAk, xAy, opv, List.getD_cons_succ, List.getD_cons_zero, xAz, Int.lt_irrefl, decide_false, xAl, xAq, List.set_cons_succ, List.set_cons_zero, xAi, xAg, xAj, xAd, xAo, xAn, Bool.false_eq_true, ↓reduceIte, xBt, xBc, xA3, xQx]
  | succ e ih =>
    intro i h
    have hlt : (i : Int) < (row.length : Nat) := by omega
    have ih' := ih (i + 1) (by omega)
    have hs' := hs _ (xBF (a := 0) (show i < row.length by omega))
    have h52 := xR5 (s := row.getD i 0) h1
    rw [decide_eq_true hs'] at h52
    rw [xU9]
    simp (maxSteps := 30000000) (disch := first | assumption | omega | (simp only [List.length_cons, List.length_nil, List.length_append, List.length_set, List.length_replicate, List.length_map, List.length_range, List.length_take, List.length_drop, List.all_cons, List.all_nil, AV.isCell, Bool.and_self, Bool.and_true, xAh, xAb, xAe, xAa, xAa, xAC, List.length_map] <;> omega) | rfl | decide) only [xOl, xAp, xAf, xAc, xAk, xAy, opv, List.getD_cons_succ, List.getD_cons_zero, xAz, hlt, decide_true, xAl, xAq, List.set_cons_succ, List.set_cons_zero, xAi, xAg, xAj, xAd, xAo, xAn, ↓reduceIte, xAx, xAr, xAZ, xAY, Int.toNat_natCast, Nat.mul_one, xAJ, xBj, xB1, xBW, xCr, xBV, Nat.add_zero, xAO, xAA, xCb, List.map_cons, List.map_nil, h52, xHI, xE7, Bool.not_true, Bool.false_eq_true, xAs, xBa, xCi, xCV, xAv, xQx, ih']

theorem xUj {rows : List (List Int)} (hv0 : 0 ≤ D.vars) (hv3 : D.vars ≤ 3) (hl : rows.length ≤ 64) (h0 : H[0]? = some (.cells false false D.cells)) (h1 : H[1]? = some (.cells false false [.int .i64 (D.next.length : Nat)]))
    (hc : ∀ row ∈ rows, row.length = two D.vars) (hs : ∀ row ∈ rows, ∀ s ∈ row, 0 ≤ s ∧ s < D.next.length) : ∀ e i, i + e = rows.length →
    L.loop xLc xTc ⟨xLd (.ptr 0 0) (.int .i64 0) (.ptr 1 0) (.func 52 [.ptr 1 0]) s43 s44 s45 (.sl false rows.length (rows.map xFk)) (.int .i64 (rows.length : Nat)) (.int .i64 (i : Nat)), H⟩ =
      some (.exit 3, ⟨xLd (.ptr 0 0) (.int .i64 0) (.ptr 1 0) (.func 52 [.ptr 1 0]) s43 s44 s45 (.sl false rows.length (rows.map xFk)) (.int .i64 (rows.length : Nat)) (.int .i64 (rows.length : Nat)), H⟩) := by
  intro e
  induction e with
  | zero =>
    intro i h
    obtain rfl : i = rows.length := by omega
    rw [xVa]
    simp (maxSteps := 30000000) (disch := first | assumption | omega | (simp only [List.length_cons, List.length_nil, List.length_append, List.length_set, List.length_replicate, List.length_map, List.length_range, List.length_take, List.length_drop, List.all_cons, List.all_nil, AV.isCell, Bool.and_self, Bool.and_true, xAh, xAb, xAe, xAa, xAa, xAC, List.length_map] <;> omega) | rfl | decide) only [xOm, xAp, xAf, xAc, xAk, xAy, opv, List.getD_cons_succ, List.getD_cons_zero, xAz, Int.lt_irrefl, decide_false, xAl, xAq, List.set_cons_succ, List.set_cons_zero, xAi, xAg, xAj, xAd, xAo, xAn, Bool.false_eq_true, ↓reduceIte, xBt, xBc, xA3, xQy]
  | succ e ih =>
    intro i h
    have hlt : (i : Int) < (rows.length : Nat) := by omega
    have ih' := ih (i + 1) (by omega)
    have hm := xBF (a := ([] : List Int)) (show i < rows.length by omega)
    have hr := xXw (D := D) (H := H) (s43 := s43) (s44 := s44) (s45 := s45) (s53 := .sl false rows.length (rows.map xFk)) (s54 := .int .i64 (rows.length : Nat)) (s55 := .int .i64 (i : Nat)) (by rw [hc _ hm]; exact (xDy hv3).1) h1 (hs _ hm) (rows.getD i []).length 0 (by omega)
    have hcl := hc _ hm
    have hsh := xI9 hv0 hv3
    have hv : ¬ D.vars < 0 := by omega
    simp only [Int.natCast_zero] at hr
    unfold Da.cells at h0
    rw [xVa]
    rw [hcl] at hr
    simp (maxSteps := 30000000) (disch := first | assumption | omega | (simp only [List.length_cons, List.length_nil, List.length_append, List.length_set, List.length_replicate, List.length_map, List.length_range, List.length_take, List.length_drop, List.all_cons, List.all_nil, AV.isCell, Bool.and_self, Bool.and_true, xAh, xAb, xAe, xAa, xAa, xAC, List.length_map] <;> omega) | rfl | decide) only [xOm, xAp, xAf, xAc, xAk, xAy, opv, List.getD_cons_succ, List.getD_cons_zero, xAz, hlt, decide_true, xAl, xAq, List.set_cons_succ, List.set_cons_zero, xAi, xAg, xAj, xAd, xAo, xAn, ↓reduceIte, xAx, xAr, xAZ, xAY, Int.toNat_natCast, Nat.mul_one, xAJ, xBj, xI8, xFk, hcl, xAO, xAA, xBk, xA8, xAV, xAB, Nat.add_zero, xA1, h0, xAt, List.drop_zero, List.take_succ_cons, List.take_zero, xDb, hsh, xBm, Bool.not_true, Bool.false_eq_true, xA6, xQx, hr, xAS, xAs, xBa, xCi, xCV, xAv, xQy, ih']

theorem xP5 (hV : Va D) (h0 : H[0]? = some (.cells false false D.cells)) (h1 : H[1]? = some (.cells false false [.int .i64 (D.next.length : Nat)])) : ∀ e i, i + e = D.next.length →
    L.loop xLe xTd ⟨xLf (.ptr 0 0) (.int .i64 0) (.ptr 1 0) (.func 52 [.ptr 1 0]) (.sl false D.next.length (D.next.map xCF)) (.int .i64 (D.next.length : Nat)) (.int .i64 (i : Nat)), H⟩ =
      some (.exit 1, ⟨xLf (.ptr 0 0) (.int .i64 0) (.ptr 1 0) (.func 52 [.ptr 1 0]) (.sl false D.next.length (D.next.map xCF)) (.int .i64 (D.next.length : Nat)) (.int .i64 (D.next.length : Nat)), H⟩) := by
  intro e
  induction e with
  | zero =>
    intro i h
    obtain rfl : i = D.next.length := by omega
    have hn := hV.n64
    rw [xVb]
    simp (maxSteps := 30000000) (disch := first | assumption | omega | (simp only [List.length_cons, List.length_nil, List.length_append, List.length_set, List.length_replicate, List.length_map, List.length_range, List.length_take, List.length_drop, List.all_cons, List.all_nil, AV.isCell, Bool.and_self, Bool.and_true, xAh, xAb, xAe, xAa, xAa, xAC, List.length_map] <;> omega) | rfl | decide) only [xOn, xAp, xAf, xAc, xAk, xAy, opv, List.getD_cons_succ, List.getD_cons_zero, xAz, Int.lt_irrefl, decide_false, xAl, xAq, List.set_cons_succ, List.set_cons_zero, xAi, xAg, xAj, xAd, xAo, xAn, Bool.false_eq_true, ↓reduceIte, xBt, xBc, xA3, xQz]
  | succ e ih =>
    intro i h
    have hlt : (i : Int) < (D.next.length : Nat) := by omega
    have ih' := ih (i + 1) (by omega)
    have hm := xBF (a := ([] : List (List Int))) (show i < D.next.length by omega)
    have hrl := hV.rl _ hm
    have hn := hV.n64
    have hr := xUj (D := D) (H := H) (s43 := .sl false D.next.length (D.next.map xCF)) (s44 := .int .i64 (D.next.length : Nat)) (s45 := .int .i64 (i : Nat)) hV.v0 hV.v3 (by omega) h0 h1 (hV.cl _ hm) (hV.ce _ hm) (D.next.getD i []).length 0 (by omega)
    simp only [Int.natCast_zero] at hr
    rw [hrl] at hr
    rw [xVb]
    simp (maxSteps := 30000000) (disch := first | assumption | omega | (simp only [List.length_cons, List.length_nil, List.length_append, List.length_set, List.length_replicate, List.length_map, List.length_range, List.length_take, List.length_drop, List.all_cons, List.all_nil, AV.isCell, Bool.and_self, Bool.and_true, xAh, xAb, xAe, xAa, xAa, xAC, List.length_map] <;> omega) | rfl | decide) only [xOn, xAp, xAf, xAc, xAk, xAy, opv, List.getD_cons_succ, List.getD_cons_zero, xAz, hlt, decide_true, xAl, xAq, List.set_cons_succ, List.set_cons_zero, xAi, xAg, xAj, xAd, xAo, xAn, ↓reduceIte, xAx, xAr, xAZ, xAY, Int.toNat_natCast, Nat.mul_one, xAJ, xBj, xFI, xCF, hrl, xAO, xAA, xBk, xA8, xA1, h1, xAt, List.drop_zero, List.take_succ_cons, List.take_nil, xBm, Bool.not_true, Bool.false_eq_true, xA6, xQy, hr, xAS, xAs, xBa, xCi, xCV, xAv, xQz, ih']
end

theorem xKS (D : Da) (hV : Va D) : L.pcall 14 [D.av] = some (.int .i64 0) := by
  have v0 := hV.v0
  have v3 := hV.v3
  have n0 := hV.n0
  have n64 := hV.n64
  have fl := hV.fl
  have hr := fun T => xP5 (H := .cells false false D.cells :: .cells false false [.int .i64 (D.next.length : Nat)] :: T) hV rfl rfl D.next.length 0 (by omega)
  have h52 := fun T => xR5 (k := 1) (s := D.empty) (n := D.next.length) (H := .cells false false D.cells :: .cells false false [.int .i64 (D.next.length : Nat)] :: T) rfl
  have e0 := hV.e0
  have en := hV.en
  rw [decide_eq_true ⟨e0, en⟩] at h52
  have c1 : ¬ D.vars < 0 := by omega
  have c2 : ¬ (3 : Int) < D.vars := by omega
  have c3 : (((D.next.length : Nat) : Int) = 0) = False := eq_false (by omega)
  have c4 : ¬ (64 : Int) < (D.next.length : Nat) := by omega
  simp only [Int.natCast_zero] at hr
  unfold Da.cells at hr h52
  simp only [fl] at hr h52
  unfold Da.av Da.cells
  rw [yDM, a14, xA7]
  simp (maxSteps := 30000000) (disch := first | assumption | omega | (simp only [List.length_cons, List.length_nil, List.length_append, List.length_set, List.length_replicate, List.length_map, List.length_range, List.length_take, List.length_drop, List.all_cons, List.all_nil, AV.isCell, Bool.and_self, Bool.and_true, xAh, xAb, xAe, xAa, xAa, xAC, List.length_map] <;> omega) | rfl | decide) only [fl, xAU, List.length_cons, List.length_nil, Nat.zero_add, Nat.reduceSub, xCL, List.cons_append, List.nil_append, xAp, xAf, xAc, xAk, xBz, AV.cells, opv, List.getD_cons_zero, List.all_cons, AV.isCell, List.all_nil, Bool.and_self, ↓reduceIte, xAq, List.set_cons_succ, List.set_cons_zero, xAi, xAA, xAg, xAj, xAd, xAV, List.getD_cons_succ, xAB, xAl, xAJ, xA1, List.getElem?_cons_zero, xAt, List.drop_succ_cons, List.drop_zero, List.take_succ_cons, List.take_zero, xAO, xBk, xA8, xA4, xBE, List.getElem?_cons_succ, xAX, xBd, List.drop_nil, List.append_nil, xAK, xBl, xDL, List.map_cons, List.map_nil, xAr, Nat.add_zero, xAy, xAz, c1, decide_false, xAM, xAD, xCm, c2, xBb, xAN, Bool.false_eq_true, xAo, xAn, List.take_nil, xBM, c3, c4, xBm, decide_true, Bool.not_true, xCb, h52, xHI, xE7, xAx, xAs, xA6, xQz, hr, xAS, xAW, xAI, xAR, xA2, xAw, xAQ, xBL, xA0]

theorem xP6 (v e : Int) (z1 z2 : Bool) (fn : Nat) (fs : List AV) (v0 : 0 ≤ v) (v3 : v ≤ 3) : L.pcall 14 [.agg [.int .i64 v, .int .i64 e, .sl z1 0 [], .sl z2 fn fs]] = some (.int .i64 3) := by
  have c1 : ¬ v < 0 := by omega
  have c2 : ¬ (3 : Int) < v := by omega
  rw [yDM, a14, xA7]
  simp (maxSteps := 30000000) (disch := first | assumption | omega | (simp only [List.length_cons, List.length_nil, List.length_append, List.length_set, List.length_replicate, List.length_map, List.length_range, List.length_take, List.length_drop, List.all_cons, List.all_nil, AV.isCell, Bool.and_self, Bool.and_true, xAh, xAb, xAe, xAa, xAa, xAC, List.length_map] <;> omega) | rfl | decide) only [xAU, List.length_cons, List.length_nil, Nat.zero_add, Nat.reduceSub, xCL, List.cons_append, List.nil_append, xAp, xAf, xAc, xAk, xBz, AV.cells, opv, List.getD_cons_zero, List.all_cons, AV.isCell, List.all_nil, Bool.and_self, ↓reduceIte, xAq, List.set_cons_succ, List.set_cons_zero, xAi, xAA, xAg, xAj, xAd, xAV, List.getD_cons_succ, xAB, xAl, xAJ, xA1, List.getElem?_cons_zero, xAt, List.drop_succ_cons, List.drop_zero, List.take_succ_cons, List.take_zero, xAO, xBk, xA8, xD8, xA4, xBE, List.getElem?_cons_succ, xAX, xBd, List.drop_nil, List.append_nil, xAK, xBl, xDL, List.map_cons, List.map_nil, xAr, Nat.add_zero, xAy, xAz, c1, decide_false, xAM, xAD, xCm, c2, xBb, xAN, Bool.false_eq_true, xAo, xAn, List.take_nil, xBM, decide_true, xAW, xBs, xBu, xAI, xAR, xA2, xAw, xAQ, xBL, xA0]
end Go.Abs.Det

/- States of trees; run. -/
namespace Go.Abs.Det
open Go Go.Abs
set_option linter.unusedSimpArgs false
set_option linter.unusedVariables false

def nx (D : Da) (a b : Int) (x : Nat) : Int := ((D.next.getD a.toNat []).getD b.toNat []).getD x 0
def stB (D : Da) : BT → Int
  | .nil => D.empty
  | .node x l r => nx D (stB D l) (stB D r) x
def stL (D : Da) : BT → List Int
  | .nil => []
  | .node x l r => stB D (.node x l r) :: (stL D l ++ stL D r)
theorem xHi (D : Da) : ∀ T : BT, (stL D T).length = T.size
  | .nil => rfl
  | .node x l r => by rw [stL, List.length_cons, List.length_append, xHi D l, xHi D r, BT.size]; omega

theorem xNV {D : Da} (hV : Va D) {a b : Int} {x : Nat} (ha : 0 ≤ a ∧ a < D.next.length) (hb : 0 ≤ b ∧ b < D.next.length) (hx : x < two D.vars) : 0 ≤ nx D a b x ∧ nx D a b x < D.next.length := by
  have h1 := xBF (a := ([] : List (List Int))) (show a.toNat < D.next.length by omega)
  have h2 := xBF (a := ([] : List Int)) (show b.toNat < (D.next.getD a.toNat []).length by rw [hV.rl _ h1]; omega)
  have h3 := xBF (a := (0 : Int)) (show x < ((D.next.getD a.toNat []).getD b.toNat []).length by rw [hV.cl _ h1 _ h2]; omega)
  exact hV.ce _ h1 _ h2 _ h3
theorem xJa {D : Da} (hV : Va D) : ∀ {T : BT}, T.labs (· < two D.vars) → 0 ≤ stB D T ∧ stB D T < D.next.length
  | .nil, _ => ⟨hV.e0, hV.en⟩
  | .node x l r, h => xNV hV (xJa hV h.2.1) (xJa hV h.2.2) h.1

theorem xR6 (D : Da) : ∀ (T : BT) (m : Nat) (S : Nat → Int), (∀ k, k < T.size → S (m + k) = (stL D T).getD k 0) → ∀ k, k < T.size →
    S (m + k) = nx D (if ((xDu m T).getD k f0).l < 0 then D.empty else S ((xDu m T).getD k f0).l.toNat) (if ((xDu m T).getD k f0).r < 0 then D.empty else S ((xDu m T).getD k f0).r.toNat) ((xDu m T).getD k f0).x ∧
    (((xDu m T).getD k f0).l = -1 ∨ (((m + k : Nat) : Int) < ((xDu m T).getD k f0).l ∧ ((xDu m T).getD k f0).l < ((m + T.size : Nat) : Int))) ∧
    (((xDu m T).getD k f0).r = -1 ∨ (((m + k : Nat) : Int) < ((xDu m T).getD k f0).r ∧ ((xDu m T).getD k f0).r < ((m + T.size : Nat) : Int)))
  | .nil, m, S, hS, k, hk => by simp [BT.size] at hk
  | .node x l r, m, S, hS, k, hk => by
    have hsz : (BT.node x l r).size = 1 + (l.size + r.size) := rfl
    have hl1 := xHi D l
    have hr1 := xHi D r
    have el := xCK l (m + 1)
    have er := xCK r (m + 1 + l.size)
    have Sl : ∀ j, j < l.size → S (m + 1 + j) = (stL D l).getD j 0 := fun j hj => by
      rw [show m + 1 + j = m + (j + 1) by omega, hS (j + 1) (by omega), stL, List.getD_cons_succ]
      simp only [List.getD_eq_getElem?_getD]
      rw [List.getElem?_append_left (by omega)]
    have Sr : ∀ j, j < r.size → S (m + 1 + l.size + j) = (stL D r).getD j 0 := fun j hj => by
      rw [show m + 1 + l.size + j = m + (l.size + j + 1) by omega, hS (l.size + j + 1) (by omega), stL, List.getD_cons_succ]
      simp only [List.getD_eq_getElem?_getD]
      rw [List.getElem?_append_right (by omega), hl1]
      congr 2; omega
    cases k with
    | zero =>
      have e0 : (xDu m (.node x l r)).getD 0 f0 = ⟨x, xDr (m + 1) l, xDr (m + 1 + l.size) r⟩ := rfl
      rw [e0, hS 0 (by omega)]
      have q : ∀ (T : BT) (j : Nat), (∀ i, i < T.size → S (j + i) = (stL D T).getD i 0) → (if xDr j T < 0 then D.empty else S (xDr j T).toNat) = stB D T := fun T j hj => by
        cases T with
        | nil => rfl
        | node y a b =>
          have : ¬ ((j : Nat) : Int) < 0 := by omega
          have hr : xDr j (.node y a b) = (j : Nat) := rfl
          rw [hr, if_neg this, Int.toNat_natCast]
          have := hj 0 (by simp [BT.size]; omega)
          rw [Nat.add_zero] at this
          rw [this]; rfl
      refine ⟨?_, ?_, ?_⟩
      · show (stL D (.node x l r)).getD 0 0 = nx D (if xDr (m + 1) l < 0 then _ else _) (if xDr (m + 1 + l.size) r < 0 then _ else _) x
        rw [q l (m + 1) Sl, q r (m + 1 + l.size) Sr]
        rfl
      · cases l with
        | nil => exact .inl rfl
        | node y a b => exact .inr ⟨by simp only [xDr]; omega, by simp only [xDr, BT.size]; omega⟩
      · cases r with
        | nil => exact .inl rfl
        | node y a b => exact .inr ⟨by simp only [xDr]; omega, by simp only [xDr, BT.size]; omega⟩
    | succ k =>
      by_cases hkl : k < l.size
      · have e0 : (xDu m (.node x l r)).getD (k + 1) f0 = (xDu (m + 1) l).getD k f0 := by
          rw [xDu, List.getD_cons_succ]
          simp only [List.getD_eq_getElem?_getD]
          rw [List.getElem?_append_left (by omega)]
        obtain ⟨i1, i2, i3⟩ := xR6 D l (m + 1) S Sl k hkl
        rw [e0, show m + (k + 1) = m + 1 + k by omega]
        refine ⟨i1, ?_, ?_⟩
        · rcases i2 with q | q
          · exact .inl q
          · exact .inr ⟨q.1, by rw [hsz]; omega⟩
        · rcases i3 with q | q
          · exact .inl q
          · exact .inr ⟨q.1, by rw [hsz]; omega⟩
      · have e0 : (xDu m (.node x l r)).getD (k + 1) f0 = (xDu (m + 1 + l.size) r).getD (k - l.size) f0 := by
          rw [xDu, List.getD_cons_succ]
          simp only [List.getD_eq_getElem?_getD]
          rw [List.getElem?_append_right (by omega), el]
        obtain ⟨i1, i2, i3⟩ := xR6 D r (m + 1 + l.size) S Sr (k - l.size) (by omega)
        have e1 : m + 1 + l.size + (k - l.size) = m + (k + 1) := by omega
        rw [e1] at i1 i2 i3
        rw [e0]
        refine ⟨i1, ?_, ?_⟩
        · rcases i2 with q | q
          · exact .inl q
          · exact .inr ⟨q.1, by rw [hsz]; omega⟩
        · rcases i3 with q | q
          · exact .inl q
          · exact .inr ⟨q.1, by rw [hsz]; omega⟩

theorem xXx {l : List Lf} {i : Nat} (h : i < l.length) : List.take 1 (List.drop (i * 3) (lfs l)) = [.int .u8 ((l.getD i f0).x : Nat)] := by
  rw [xHV h]; rfl

theorem yAu {c : Int} {n : Nat} {cur : List Int} (hn : cur.length = n + 1) (hn2 : n < 1099511627776) (hc : c < 0 ∨ c < (n : Nat)) :
    L.pcall 100 [.int .i64 c, .vptr [.int .i64 (n : Nat)] 0, .vptr [.sl false (n + 1) (xCh cur)] 0] = some (.int .i64 (if c < 0 then cur.getD n 0 else cur.getD c.toNat 0)) := by
  by_cases h : c < 0
  · rw [if_pos h, xZj, xZe, xA7]
    have hg : List.take 1 (List.drop n (xCh cur)) = [.int .i64 (cur.getD n 0)] := xCe _ _ (by omega)
    simp (maxSteps := 30000000) (disch := first | assumption | omega | (simp only [List.length_cons, List.length_nil, List.length_append, List.length_set, List.length_replicate, List.length_map, List.length_range, List.length_take, List.length_drop, List.all_cons, List.all_nil, AV.isCell, Bool.and_self, Bool.and_true, xAh, xAb, xAe, xAa, xAa, xAC, List.length_map, xAP] <;> omega) | rfl | decide) only [xAU, List.length_cons, List.length_nil, Nat.zero_add, Nat.reduceAdd, Nat.reduceSub, xCL, List.cons_append, List.nil_append, xAp, xAf, xAc, xAk, xAA, opv, xAq, List.set_cons_succ, List.set_cons_zero, xAi, xAg, xAj, xAd, List.getD_cons_zero, xAy, List.getD_cons_succ, xAz, h, decide_true, xAl, xAo, xAn, ↓reduceIte, xAJ, xBj, List.drop_zero, List.take_succ_cons, List.take_nil, xAO, xAZ, xAY, Int.toNat_natCast, Nat.mul_one, xB1, xBW, xCr, xBV, Nat.add_zero, xAW, xAI, xAR, xA2, xAw, xAQ, xBL, xA0]
  · rw [if_neg h, xZj, xZe, xA7]
    have h0 : 0 ≤ c := by omega
    have hg : List.take 1 (List.drop c.toNat (xCh cur)) = [.int .i64 (cur.getD c.toNat 0)] := xCe _ _ (by omega)
    simp (maxSteps := 30000000) (disch := first | assumption | omega | (simp only [List.length_cons, List.length_nil, List.length_append, List.length_set, List.length_replicate, List.length_map, List.length_range, List.length_take, List.length_drop, List.all_cons, List.all_nil, AV.isCell, Bool.and_self, Bool.and_true, xAh, xAb, xAe, xAa, xAa, xAC, List.length_map, xAP] <;> omega) | rfl | decide) only [xAU, List.length_cons, List.length_nil, Nat.zero_add, Nat.reduceAdd, Nat.reduceSub, xCL, List.cons_append, List.nil_append, xAp, xAf, xAc, xAk, xAA, opv, xAq, List.set_cons_succ, List.set_cons_zero, xAi, xAg, xAj, xAd, List.getD_cons_zero, xAy, List.getD_cons_succ, xAz, h, decide_false, xAl, xAo, xAn, Bool.false_eq_true, ↓reduceIte, xAx, xAJ, xBj, List.drop_zero, List.take_succ_cons, List.take_nil, xAO, xAZ, xAY, Nat.mul_one, xB1, xBW, xCr, xBV, Nat.add_zero, xAW, xAI, xAR, xA2, xAw, xAQ, xBL, xA0]
end Go.Abs.Det

/- run; both; Run. -/
namespace Go.Abs.Det
open Go Go.Abs
set_option linter.unusedSimpArgs false
set_option linter.unusedVariables false

theorem xR7 {D : Da} (hV : Va D) {z : Bool} {t : List Lf} {S : List Int} (ht : t.length ≤ 31) (hS : S.length = t.length + 1) (hx : ∀ e ∈ t, e.x < two D.vars)
    (hend : S.getD t.length 0 = D.empty) (hbd : ∀ s ∈ S, 0 ≤ s ∧ s < D.next.length)
    (hrec : ∀ k, k < t.length → S.getD k 0 = nx D (if (t.getD k f0).l < 0 then D.empty else S.getD (t.getD k f0).l.toNat 0) (if (t.getD k f0).r < 0 then D.empty else S.getD (t.getD k f0).r.toNat 0) (t.getD k f0).x ∧
      ((t.getD k f0).l = -1 ∨ ((k : Int) < (t.getD k f0).l ∧ (t.getD k f0).l < (t.length : Nat))) ∧ ((t.getD k f0).r = -1 ∨ ((k : Int) < (t.getD k f0).r ∧ (t.getD k f0).r < (t.length : Nat)))) :
    ∀ i, i ≤ t.length → L.loop xLC xTo ⟨xLD (tw z t) (.ptr 0 0) (.ptr 3 0) (.func 100 [.ptr 1 0, .ptr 3 0]) (.int .i64 ((i : Nat) - 1)), [.cells false false D.cells, .cells false false [.int .i64 (t.length : Nat)], .cells false false (xCh (List.replicate i 0 ++ S.drop i)), .cells false false [.own false 2 0 (t.length + 1) 1]]⟩ =
      some (.exit 0, ⟨xLD (tw z t) (.ptr 0 0) (.ptr 3 0) (.func 100 [.ptr 1 0, .ptr 3 0]) (.int .i64 (-1)), [.cells false false D.cells, .cells false false [.int .i64 (t.length : Nat)], .cells false false (xCh S), .cells false false [.own false 2 0 (t.length + 1) 1]]⟩) := by
  intro i
  induction i with
  | zero =>
    intro _
    rw [List.replicate_zero, List.nil_append, List.drop_zero]
    have e1 : (((0 : Nat) : Int) - 1) = -1 := by omega
    rw [e1, xVk]
    simp (maxSteps := 30000000) (disch := first | assumption | omega | (simp only [List.length_cons, List.length_nil, List.length_append, List.length_set, List.length_replicate, List.length_map, List.length_range, List.length_take, List.length_drop, List.all_cons, List.all_nil, AV.isCell, Bool.and_self, Bool.and_true, xAh, xAb, xAe, xAa, xAa, xAC, List.length_map, xAP] <;> omega) | rfl | decide) only [xOz, Int.reduceNeg, xAp, xAf, xAc, xAk, xAA, opv, List.getD_cons_succ, List.getD_cons_zero, xAq, List.set_cons_succ, List.set_cons_zero, xAi, xAy, xCz, Int.reduceLE, decide_false, xAl, xAg, xAj, xAd, xAo, xAn, Bool.false_eq_true, ↓reduceIte, xBt, xBc, xA3, xQL]
  | succ i ih =>
    intro hi
    have ih' := ih (by omega)
    obtain ⟨q1, q2, q3⟩ := hrec i (by omega)
    have e1 : (((i + 1 : Nat) : Int) - 1) = (i : Nat) := by omega
    have hlen : (List.replicate (i + 1) 0 ++ S.drop (i + 1)).length = t.length + 1 := by simp; omega
    have hc0 : ∀ k, i < k → k ≤ t.length → (List.replicate (i + 1) 0 ++ S.drop (i + 1)).getD k 0 = S.getD k 0 := fun k h1 h2 => by
      simp only [List.getD_eq_getElem?_getD]
      rw [List.getElem?_append_right (by simp; omega), List.getElem?_drop]
      congr 2; simp; omega
    have xDU : ∀ y : Int, y = S.getD i 0 → (List.replicate (i + 1) 0 ++ S.drop (i + 1)).set i y = List.replicate i 0 ++ S.drop i := fun y hy => by
      subst hy
      apply List.ext_getElem?
      intro k
      rw [List.getElem?_set]
      by_cases c : i = k
      · subst c
        rw [if_pos rfl, if_pos (by rw [hlen]; omega), List.getElem?_append_right (by simp), List.getElem?_drop]
        have : i + (i - (List.replicate i (0 : Int)).length) = i := by simp
        rw [this, List.getD_eq_getElem?_getD, List.getElem?_eq_getElem (by omega)]
        rfl
      · rw [if_neg c]
        rcases Nat.lt_or_ge k i with h | h
        · rw [List.getElem?_append_left (by simp; omega), List.getElem?_append_left (by simp; omega), List.getElem?_replicate, List.getElem?_replicate, if_pos (by omega), if_pos h]
        · rw [List.getElem?_append_right (by simp; omega), List.getElem?_append_right (by simp; omega), List.getElem?_drop, List.getElem?_drop]
          congr 1; simp; omega
    generalize hcur : List.replicate (i + 1) 0 ++ S.drop (i + 1) = cur at *
    have hxi := hx _ (xKP (show i < t.length by omega))
    generalize hL : (if (t.getD i f0).l < 0 then D.empty else S.getD (t.getD i f0).l.toNat 0) = sl at *
    generalize hR : (if (t.getD i f0).r < 0 then D.empty else S.getD (t.getD i f0).r.toNat 0) = sr at *
    have hin : ∀ k, k ≤ t.length → 0 ≤ S.getD k 0 ∧ S.getD k 0 < D.next.length := fun k hk => hbd _ (xBF (by omega))
    have hl1 : L.pcall 100 [.int .i64 (t.getD i f0).l, .vptr [.int .i64 (t.length : Nat)] 0, .vptr [.sl false (t.length + 1) (xCh cur)] 0] = some (.int .i64 sl) ∧ 0 ≤ sl ∧ sl < D.next.length := by
      have h := yAu (c := (t.getD i f0).l) hlen (by omega) (by omega)
      rw [h, ← hL]
      by_cases c : (t.getD i f0).l < 0
      · rw [if_pos c, if_pos c, hc0 _ (by omega) (Nat.le_refl _), hend]
        exact ⟨rfl, hV.e0, hV.en⟩
      · rw [if_neg c, if_neg c, hc0 _ (by omega) (by omega)]
        exact ⟨rfl, hin _ (by omega)⟩
    have hr1 : L.pcall 100 [.int .i64 (t.getD i f0).r, .vptr [.int .i64 (t.length : Nat)] 0, .vptr [.sl false (t.length + 1) (xCh cur)] 0] = some (.int .i64 sr) ∧ 0 ≤ sr ∧ sr < D.next.length := by
      have h := yAu (c := (t.getD i f0).r) hlen (by omega) (by omega)
      rw [h, ← hR]
      by_cases c : (t.getD i f0).r < 0
      · rw [if_pos c, if_pos c, hc0 _ (by omega) (Nat.le_refl _), hend]
        exact ⟨rfl, hV.e0, hV.en⟩
      · rw [if_neg c, if_neg c, hc0 _ (by omega) (by omega)]
        exact ⟨rfl, hin _ (by omega)⟩
    obtain ⟨hl1, hl2⟩ := hl1
    obtain ⟨hr1, hr2⟩ := hr1
    have k1 := xBF (a := ([] : List (List Int))) (show sl.toNat < D.next.length by omega)
    have l1 := hV.rl _ k1
    have k2 := xBF (a := ([] : List Int)) (show sr.toNat < (D.next.getD sl.toNat []).length by omega)
    have l2 := hV.cl _ k1 _ k2
    have hst := xDU _ q1.symm
    unfold nx at hst
    have n64 := hV.n64
    have htk : List.take (t.length + 1) cur = cur := List.take_of_length_le (by omega)
    have hgc : List.take 1 (List.drop (t.getD i f0).x (xCh ((D.next.getD sl.toNat []).getD sr.toNat []))) = [.int .i64 (((D.next.getD sl.toNat []).getD sr.toNat []).getD (t.getD i f0).x 0)] := xCe _ _ (by omega)
    have hge : (0 : Int) ≤ (i : Nat) := by omega
    have hx8 : two D.vars ≤ 8 := (xDy hV.v3).1
    clear hrec xDU hc0 hin hbd hx
    unfold Da.cells at ih' ⊢
    rw [e1, xVk]
    simp (maxSteps := 30000000) (disch := first | assumption | omega | (simp only [List.length_cons, List.length_nil, List.length_append, List.length_set, List.length_replicate, List.length_map, List.length_range, List.length_take, List.length_drop, List.all_cons, List.all_nil, AV.isCell, Bool.and_self, Bool.and_true, xAh, xAb, xAe, xAa, xAa, xAC, List.length_map, xAP] <;> omega) | rfl | decide) only [xOz, xAp, xAf, xAc, xAk, xAA, opv, List.getD_cons_succ, List.getD_cons_zero, xAq, List.set_cons_succ, List.set_cons_zero, xAi, xAy, xCz, hge, decide_true, xAl, xAg, xAj, xAd, xAo, xAn, ↓reduceIte, xAx, xAr, xBI, List.take_succ_cons, List.take_zero, xA5, xBf, xBR, xAJ, xA1, List.getElem?_cons_succ, List.getElem?_cons_zero, xAt, List.drop_zero, List.take_nil, xAO, xBq, xBC, xBo, xCx, xBY, xAV, xAB, Nat.zero_add, List.drop_succ_cons, xCg, xAZ, xAY, Int.toNat_natCast, xEN, xBj, xNR, xOU, List.map_cons, List.map_nil, xHu, List.cons_append, List.nil_append, xBi, xBL, List.mapM_cons, xA0, xRc, xJO, List.mapM_nil, Option.pure_def, Option.bind_eq_bind, Option.bind_some, Option.map_some, xKq, xFO, Nat.mul_one, xBW, htk, xKT, xB6, xBh, hl1, xBg, xDT, xCw, xDC, xCY, List.flatMap_cons, xCn, xRd, xIv, List.flatMap_nil, List.append_nil, xRe, xJQ, xUn, List.all_cons, xJP, List.all_nil, Bool.and_true, Bool.true_or, xFI, xCF, l1, xNS, hr1, xI8, xFk, l2, Nat.add_zero, xXx, xBe, xBn, xCt, xBy, xB1, xCr, xBV, xBU, xA4, AV.cells, List.length_cons, List.length_nil, xBE, xAX, xBd, List.append_assoc, xJb, hst, xAK, xBl, xAs, xFl, xCV, xAv, xQL, ih', Int.reduceNeg]

theorem yDa {D : Da} (hV : Va D) (z : Bool) {T : BT} (ht : T.size ≤ 31) (hx : T.labs (· < two D.vars)) : L.pcall 54 [D.av, tw z (xDu 0 T)] = some (.sl false (T.size + 1) (xCh (stL D T ++ [D.empty]))) := by
  have hl := xCK T 0
  have hsl := xHi D T
  have hS : ∀ k, k < T.size → (stL D T ++ [D.empty]).getD k 0 = (stL D T).getD k 0 := fun k hk => by
    simp only [List.getD_eq_getElem?_getD]
    rw [List.getElem?_append_left (by omega)]
  have hE : (stL D T ++ [D.empty]).getD (xDu 0 T).length 0 = D.empty := by
    simp only [List.getD_eq_getElem?_getD]
    rw [List.getElem?_append_right (by omega), hl, hsl, Nat.sub_self]; rfl
  have hbd : ∀ s ∈ stL D T ++ [D.empty], 0 ≤ s ∧ s < D.next.length := by
    have key : ∀ T : BT, T.labs (· < two D.vars) → ∀ s ∈ stL D T, 0 ≤ s ∧ s < D.next.length := by
      intro T
      induction T with
      | nil => intro _ s hs; cases hs
      | node x l r ihl ihr =>
        intro h s hs
        rw [stL, List.mem_cons, List.mem_append] at hs
        rcases hs with rfl | hs | hs
        · exact xJa hV h
        · exact ihl h.2.1 s hs
        · exact ihr h.2.2 s hs
    intro s hs
    rcases List.mem_append.1 hs with q | q
    · exact key T hx s q
    · rw [List.mem_singleton.1 q]; exact ⟨hV.e0, hV.en⟩
  have hrec := fun k (hk : k < (xDu 0 T).length) => by
    have := xR6 D T 0 (fun k => (stL D T ++ [D.empty]).getD k 0) (fun k hk => by rw [Nat.zero_add]; exact hS k hk) k (by omega)
    simp only [Nat.zero_add] at this
    rw [← hl] at this
    exact this
  have h := xR7 hV (z := z) (t := xDu 0 T) (S := stL D T ++ [D.empty]) (by omega) (by simp; omega) (fun e he => (xFV T 0).2 hx e he) hE hbd hrec (xDu 0 T).length (Nat.le_refl _)
  have hcur : List.replicate (xDu 0 T).length 0 ++ (stL D T ++ [D.empty]).drop (xDu 0 T).length = (List.replicate (T.size + 1) (0 : Int)).set T.size D.empty := by
    rw [List.drop_append_of_le_length (by omega), List.drop_of_length_le (by omega), hl, List.replicate_succ', List.set_append_right _ _ (by simp)]
    simp
  rw [hcur] at h
  have hfl : (stL D T ++ [D.empty]).length = T.size + 1 := by simp [hsl]
  generalize stL D T ++ [D.empty] = S at *
  have htk : List.take (T.size + 1) S = S := List.take_of_length_le (by omega)
  clear hrec hbd hE hS hcur
  unfold tw at h ⊢
  simp only [hl] at h ⊢
  generalize lfs (xDu 0 T) = tl at *
  generalize T.size = n at *
  unfold Da.av
  unfold Da.cells at h ⊢
  rw [yEM, a54, xA7]
  simp (maxSteps := 30000000) (disch := first | assumption | omega | (simp only [List.length_cons, List.length_nil, List.length_append, List.length_set, List.length_replicate, List.length_map, List.length_range, List.length_take, List.length_drop, List.all_cons, List.all_nil, AV.isCell, Bool.and_self, Bool.and_true, xAh, xAb, xAe, xAa, xAa, xAC, List.length_map, xAP] <;> omega) | rfl | decide) only [xAU, List.length_cons, List.length_nil, Nat.zero_add, Nat.reduceAdd, Nat.reduceSub, xCL, List.cons_append, List.nil_append, xAp, xAf, xAc, xAk, xBz, AV.cells, opv, List.getD_cons_zero, List.all_cons, AV.isCell, List.all_nil, Bool.and_self, ↓reduceIte, xAq, List.set_cons_succ, List.set_cons_zero, xAi, xAA, xAg, xAj, xAd, List.getD_cons_succ, xBk, xA8, xAl, xA4, xBE, List.getElem?_cons_succ, List.getElem?_cons_zero, xAX, xBd, List.take_zero, List.drop_succ_cons, List.drop_nil, List.append_nil, xAK, xBl, xAJ, xA1, xAt, List.drop_zero, List.take_succ_cons, List.take_nil, xAO, xAy, xBa, xCi, xCV, xEw, xGy, Int.toNat_natCast, xI5, xCR, xAV, xAB, xAZ, xBU, Nat.mul_one, xBW, xB1, List.append_assoc, xJb, xDL, List.map_cons, List.map_nil, xFl, xAr, xA6, xQL, h, Int.reduceNeg, xAS, xAW, xAI, xAR, xA2, xAw, xAQ, xBL, xKq, xFO, htk, xKT, xB6]

theorem yAv (D : Da) (z : Bool) (t : List Lf) (e1 e2 : Int) (h1 : L.pcall 14 [D.av] = some (.int .i64 e1)) (h2 : e1 = 0 → L.pcall 99 [tw z t, .int .i64 D.vars] = some (.int .i64 e2)) : L.pcall 53 [D.av, tw z t] = some (.int .i64 (if e1 = 0 then e2 else e1)) := by
  unfold Da.av Da.cells at h1 ⊢
  by_cases c : e1 = 0
  · have h2' := h2 c
    subst c
    rw [if_pos rfl, yDR, a53, xA7]
    simp (maxSteps := 30000000) (disch := first | assumption | omega | (simp only [List.length_cons, List.length_nil, List.length_append, List.length_set, List.length_replicate, List.length_map, List.length_range, List.length_take, List.length_drop, List.all_cons, List.all_nil, AV.isCell, Bool.and_self, Bool.and_true, xAh, xAb, xAe, xAa, xAa, xAC, List.length_map, xAP] <;> omega) | rfl | decide) only [xAU, List.length_cons, List.length_nil, Nat.zero_add, Nat.reduceAdd, Nat.reduceSub, xCL, List.cons_append, List.nil_append, xAp, xAf, xAc, xAk, xBz, AV.cells, opv, List.getD_cons_zero, List.all_cons, AV.isCell, List.all_nil, Bool.and_self, ↓reduceIte, xAq, List.set_cons_succ, List.set_cons_zero, xAi, xAA, xAg, xAj, xAd, xAJ, List.getD_cons_succ, xA1, List.getElem?_cons_zero, xAt, List.drop_zero, List.take_succ_cons, List.take_nil, xBH, xAl, xBJ, List.map_cons, List.map_nil, xBi, xBL, List.mapM_cons, xCA, xA0, xCa, List.mapM_nil, Option.pure_def, Option.bind_eq_bind, Option.bind_some, Option.map_some, xBh, h1, xBg, xDT, xCw, xAy, xBm, decide_true, Bool.not_true, xAo, xAn, Bool.false_eq_true, xAx, xAV, xAB, Nat.add_zero, List.take_zero, xAO, h2', xAW, xAI, xAR, xA2, xAw, xAQ]
  · rw [if_neg c, yDR, a53, xA7]
    simp (maxSteps := 30000000) (disch := first | assumption | omega | (simp only [List.length_cons, List.length_nil, List.length_append, List.length_set, List.length_replicate, List.length_map, List.length_range, List.length_take, List.length_drop, List.all_cons, List.all_nil, AV.isCell, Bool.and_self, Bool.and_true, xAh, xAb, xAe, xAa, xAa, xAC, List.length_map, xAP] <;> omega) | rfl | decide) only [xAU, List.length_cons, List.length_nil, Nat.zero_add, Nat.reduceAdd, Nat.reduceSub, xCL, List.cons_append, List.nil_append, xAp, xAf, xAc, xAk, xBz, AV.cells, opv, List.getD_cons_zero, List.all_cons, AV.isCell, List.all_nil, Bool.and_self, ↓reduceIte, xAq, List.set_cons_succ, List.set_cons_zero, xAi, xAA, xAg, xAj, xAd, xAJ, List.getD_cons_succ, xA1, List.getElem?_cons_zero, xAt, List.drop_zero, List.take_succ_cons, List.take_nil, xBH, xAl, xBJ, List.map_cons, List.map_nil, xBi, xBL, List.mapM_cons, xCA, xA0, xCa, List.mapM_nil, Option.pure_def, Option.bind_eq_bind, Option.bind_some, Option.map_some, xBh, h1, xBg, xDT, xCw, xAy, xBm, c, decide_false, Bool.not_false, xAo, xAn, xAW, xBu, xAI, xAR, xA2, xAw, xAQ]
end Go.Abs.Det

/- Run; EqualInts; CopyInts; the part of the law's automaton as data. -/
namespace Go.Abs.Det
open Go Go.Abs
set_option linter.unusedSimpArgs false
set_option linter.unusedVariables false

theorem xKg {D : Da} (hV : Va D) (z : Bool) (t : List Lf) (hl : t.length < 1099511627776) (hx : ∀ e ∈ t, e.x < 256) : L.pcall 53 [D.av, tw z t] = some (.int .i64 (xHh t D.vars.toNat)) := by
  have v0 := hV.v0
  have v3 := hV.v3
  have h := yAv D z t 0 (xHh t D.vars.toNat) (xKS D hV) (fun _ => by
    have := xMV z t D.vars.toNat (by omega) hl hx
    rwa [Int.toNat_of_nonneg v0] at this)
  exact h

theorem xR8 {v : Int} {x : Nat} (h0 : 0 ≤ v) : x >>> v.toNat = 0 ↔ x < two v := by
  unfold two
  rw [Nat.shiftRight_eq_div_pow]
  exact Nat.div_eq_zero_iff_lt (Nat.two_pow_pos _)

theorem xMY {t : List Lf} {v : Int} (h0 : 0 ≤ v) : xHh t v.toNat = 0 ↔ ∃ T, t = xDu 0 T ∧ T.size ≤ 31 ∧ T.labs (· < two v) := by
  unfold xHh
  constructor
  · intro h
    split at h
    · omega
    split at h
    case isFalse => omega
    rename_i h1
    split at h
    case isFalse => omega
    rename_i h2
    obtain ⟨T, hT⟩ := formedB_iff.1 h2
    obtain ⟨e1, e2⟩ := xP2 hT
    refine ⟨T, e1, e2, (xFV T 0).1 fun e he => (xR8 h0).1 (labOk_iff.1 h1 e (e1 ▸ he))⟩
  · rintro ⟨T, rfl, h2, h3⟩
    rw [if_neg (by rw [xCK]; omega), if_pos (labOk_iff.2 fun e he => (xR8 h0).2 ((xFV T 0).2 h3 e he)), if_pos (formedB_iff.2 ⟨T, xKc h2⟩)]

theorem xGd {l : List Int} {z z' : Bool} {s4 : AV} {H : xAu} (hl : l.length < 1099511627776) : ∀ d i, i + d = l.length →
    L.loop xLg xTe ⟨xLh (iw z l) (iw z' l) s4 (.int .i64 (i : Nat)), H⟩ = some (.exit 0, ⟨xLh (iw z l) (iw z' l) s4 (.int .i64 (l.length : Nat)), H⟩)
  | 0, i, h => by
    obtain rfl : i = l.length := by omega
    rw [xVc]
    simp (maxSteps := 30000000) (disch := first | assumption | omega | (simp only [List.length_cons, List.length_nil, List.length_append, List.length_set, List.length_replicate, List.length_map, List.length_range, List.length_take, List.length_drop, List.all_cons, List.all_nil, AV.isCell, Bool.and_self, Bool.and_true, xAh, xAb, xAe, xAa, xAa, xAC, List.length_map, xAP] <;> omega) | rfl | decide) only [xOo, xAp, xAf, xAc, xAk, xAA, opv, List.getD_cons_succ, List.getD_cons_zero, xAq, List.set_cons_succ, List.set_cons_zero, xAi, xBk, xA8, xAl, xAy, xAz, Int.lt_irrefl, decide_false, xAg, xAj, xAd, xAo, xAn, Bool.false_eq_true, ↓reduceIte, xBt, xBc, xA3, xQA]
  | d + 1, i, h => by
    have hlt : (i : Int) < (l.length : Nat) := by omega
    have ih := xGd (z := z) (z' := z') (s4 := s4) (H := H) hl d (i + 1) (by omega)
    rw [xVc]
    simp (maxSteps := 30000000) (disch := first | assumption | omega | (simp only [List.length_cons, List.length_nil, List.length_append, List.length_set, List.length_replicate, List.length_map, List.length_range, List.length_take, List.length_drop, List.all_cons, List.all_nil, AV.isCell, Bool.and_self, Bool.and_true, xAh, xAb, xAe, xAa, xAa, xAC, List.length_map, xAP] <;> omega) | rfl | decide) only [xOo, xAp, xAf, xAc, xAk, xAA, opv, List.getD_cons_succ, List.getD_cons_zero, xAq, List.set_cons_succ, List.set_cons_zero, xAi, xBk, xA8, xAl, xAy, xAz, hlt, decide_true, xAg, xAj, xAd, xAo, xAn, ↓reduceIte, xAx, xAr, xBI, List.take_succ_cons, List.take_zero, xA5, xBf, xCx, xBq, xBC, xBo, xCg, xAZ, xAY, Int.toNat_natCast, Nat.mul_one, xBR, xAJ, xBj, xB1, xBW, xCr, xBV, Nat.add_zero, xAO, xBe, xBn, List.drop_succ_cons, List.drop_zero, xCt, xBy, xBm, Bool.not_true, Bool.false_eq_true, xAs, xBa, xCi, xCV, xAv, xQA, ih]
theorem xR9 (z z' : Bool) (l : List Int) (hl : l.length < 1099511627776) : L.pcall 20 [iw z l, iw z' l] = some (.bool true) := by
  have ih := fun s4 => xGd (z := z) (z' := z') (s4 := s4) (H := []) hl l.length 0 (by omega)
  simp only [Int.natCast_zero] at ih
  rw [yEF, a20, xA7]
  simp (maxSteps := 30000000) (disch := first | assumption | omega | (simp only [List.length_cons, List.length_nil, List.length_append, List.length_set, List.length_replicate, List.length_map, List.length_range, List.length_take, List.length_drop, List.all_cons, List.all_nil, AV.isCell, Bool.and_self, Bool.and_true, xAh, xAb, xAe, xAa, xAa, xAC, List.length_map, xAP] <;> omega) | rfl | decide) only [xAU, List.length_cons, List.length_nil, Nat.zero_add, Nat.reduceAdd, Nat.reduceSub, xCL, List.cons_append, List.nil_append, xAp, xAf, xAc, xAk, xAA, opv, xAq, List.set_cons_succ, List.set_cons_zero, xAi, xAg, xAj, xAd, List.getD_cons_zero, xBk, List.getD_cons_succ, xA8, xAl, xAy, xBm, decide_true, Bool.not_true, xAo, xAn, Bool.false_eq_true, ↓reduceIte, xAx, xAr, xA6, xQA, ih, xAS, xAW, xAI, xAR, xA2, xAw, xAQ, xBL, xB2]
def xUk (d : Dfa) : Da := ⟨nrm d.vars 3, nrm d.empty (min 8 d.next.length : Nat), (List.range (min 8 d.next.length)).map fun l => (List.range (min 8 d.next.length)).map fun r => xP3 d (min 8 d.next.length) (two (nrm d.vars 3)) l r, fiS d (min 8 d.next.length)⟩
theorem xSa {d : Dfa} (h : d.next.length ≠ 0) : yAt d = (xUk d).av := by
  unfold yAt
  rw [if_neg h]
  unfold Da.av Da.cells xUk stT xF4
  simp only [List.length_map, List.length_range, List.map_map, xI7]
  congr 5
  apply List.map_congr_left
  intro k _
  simp only [Function.comp, xCF, List.length_map, List.length_range, List.map_map]
  rfl
theorem xUl {d : Dfa} {n l r x : Nat} (hn : 0 < n) : 0 ≤ xFg d n l r x ∧ xFg d n l r x < (n : Nat) := by
  unfold xFg
  split
  · exact xKd _ (by omega)
  · omega
theorem xP7 {d : Dfa} (h : d.next.length ≠ 0) : Va (xUk d) := by
  have h1 := xKd d.vars (n := 3) (by omega)
  have h2 := xKd d.empty (n := ((min 8 d.next.length : Nat) : Int)) (by omega)
  have hlen : (xUk d).next.length = min 8 d.next.length := by simp [xUk]
  refine ⟨h1.1, by show nrm d.vars 3 ≤ 3; omega, by rw [hlen]; omega, by rw [hlen]; omega, by rw [hlen]; exact xI7 d _, h2.1, by rw [hlen]; exact h2.2, fun rows hr => ?_, fun rows hr row hw => ?_, fun rows hr row hw s hs => ?_⟩
  · obtain ⟨l, _, rfl⟩ := List.mem_map.1 hr
    rw [hlen]; simp
  · obtain ⟨l, _, rfl⟩ := List.mem_map.1 hr
    obtain ⟨r, _, rfl⟩ := List.mem_map.1 hw
    exact xPf ..
  · obtain ⟨l, _, rfl⟩ := List.mem_map.1 hr
    obtain ⟨r, _, rfl⟩ := List.mem_map.1 hw
    obtain ⟨x, _, rfl⟩ := List.mem_map.1 hs
    rw [hlen]
    exact xUl (by omega)
end Go.Abs.Det
