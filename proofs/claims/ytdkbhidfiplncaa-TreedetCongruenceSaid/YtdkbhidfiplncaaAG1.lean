/- Values over the caller's own blocks: what they stand for, and that other blocks do not matter. -/
import Derived.Test.YtdkbhidfiplncaaAbsEnc2
namespace Go.Abs.Det
open Go Go.Abs
set_option linter.unusedSimpArgs false
set_option linter.unusedVariables false

theorem mapM_congr {α β : Type} {f g : α → Option β} : ∀ {l : List α}, (∀ a ∈ l, f a = g a) → l.mapM f = l.mapM g
  | [], _ => rfl
  | a :: l, h => by
    rw [List.mapM_cons, List.mapM_cons, h a (by simp), mapM_congr (fun b hb => h b (by simp [hb]))]

/-- other blocks do not matter -/
theorem frz_frame {G G' : Heap} : ∀ (d : Nat) (v : AV), (∀ b ∈ bor d G v, G'[b]? = G[b]?) → frz d G' v = frz d G v ∧ bor d G' v = bor d G v := by
  intro d
  induction d with
  | zero =>
    intro v h
    cases v <;> first | exact ⟨rfl, rfl⟩ | (rename_i f caps; cases caps <;> exact ⟨rfl, rfl⟩)
  | succ d ih =>
    intro v h
    have many : ∀ cs : List AV, (∀ b ∈ cs.flatMap (bor d G), G'[b]? = G[b]?) → cs.mapM (frz d G') = cs.mapM (frz d G) ∧ cs.flatMap (bor d G') = cs.flatMap (bor d G) := by
      intro cs hcs
      refine ⟨mapM_congr fun a ha => (ih a fun b hb => hcs b (List.mem_flatMap.2 ⟨a, ha, hb⟩)).1, ?_⟩
      induction cs with
      | nil => rfl
      | cons c cs ih2 =>
        simp only [List.flatMap_cons] at hcs ⊢
        rw [(ih c fun b hb => hcs b (List.mem_append.2 (.inl hb))).2, ih2 fun b hb => hcs b (List.mem_append.2 (.inr hb))]
    cases v
    case own z id off n es =>
      have h0 := h id (by simp [bor])
      simp only [frz, bor, h0]
      cases hG : G[id]? with
      | none => simp
      | some bk =>
        cases bk with
        | dead => simp
        | mp es => simp
        | loop => simp
        | cells fz z' cs =>
          obtain ⟨m1, m2⟩ := many ((cs.drop off).take (n * es)) (fun b hb => h b (by simp only [bor, hG]; exact List.mem_cons_of_mem _ hb))
          simp [m1, m2]
    case ptr id off =>
      have h0 := h id (by simp [bor])
      simp only [frz, bor, h0]
      cases hG : G[id]? with
      | none => simp
      | some bk =>
        cases bk with
        | dead => simp
        | mp es => simp
        | loop => simp
        | cells fz z' cs =>
          obtain ⟨m1, m2⟩ := many cs (fun b hb => h b (by simp only [bor, hG]; exact List.mem_cons_of_mem _ hb))
          simp [m1, m2]
    case agg cs =>
      obtain ⟨m1, m2⟩ := many cs h
      simp [frz, bor, m1, m2]
    case tup cs =>
      obtain ⟨m1, m2⟩ := many cs h
      simp [frz, bor, m1, m2]
    case func f caps => cases caps <;> exact ⟨rfl, rfl⟩
    all_goals exact ⟨rfl, rfl⟩

/-- v stands for t, over blocks from B on -/
def Fz (k : Nat) (G : Heap) (B : Nat) (v t : AV) : Prop := ∀ d, k ≤ d → frz d G v = some t ∧ ∀ b ∈ bor d G v, B ≤ b ∧ b < G.length

theorem Fz.frame {k B : Nat} {G G' : Heap} {v t : AV} (h : Fz k G B v t) (hl : G.length ≤ G'.length) (he : ∀ d, k ≤ d → ∀ b ∈ bor d G v, G'[b]? = G[b]?) : Fz k G' B v t := by
  intro d hd
  obtain ⟨h1, h2⟩ := h d hd
  obtain ⟨f1, f2⟩ := frz_frame d v (he d hd)
  exact ⟨f1.trans h1, fun b hb => by rw [f2] at hb; have := h2 b hb; omega⟩
theorem Fz.grow {k B : Nat} {G G' : Heap} {v t : AV} (h : Fz k G B v t) (hl : G.length ≤ G'.length) (he : ∀ b, B ≤ b → b < G.length → G'[b]? = G[b]?) : Fz k G' B v t :=
  h.frame hl fun d hd b hb => by have := (h d hd).2 b hb; exact he b this.1 this.2
theorem Fz.low {k B B' : Nat} {G : Heap} {v t : AV} (h : Fz k G B v t) (hb : B' ≤ B) : Fz k G B' v t :=
  fun d hd => ⟨(h d hd).1, fun b hb' => by have := (h d hd).2 b hb'; omega⟩

theorem Fz.data {G : Heap} {B : Nat} {v : AV} (h : data1 v = true) : Fz 0 G B v v := by
  intro d _
  cases v <;> simp [data1] at h
  case func f caps =>
    cases caps with
    | nil => exact ⟨by cases d <;> rfl, fun b hb => by cases d <;> simp [bor] at hb⟩
    | cons => simp at h
  all_goals exact ⟨by cases d <;> rfl, fun b hb => by cases d <;> simp [bor] at hb⟩

/-- a row of data -/
theorem Fz.row {G : Heap} {B id es n : Nat} {cs : List AV} (hG : G[id]? = some (.cells false false cs)) (hd : cs.all data1 = true) (hn : cs.length = n * es) (hB : B ≤ id) : Fz 1 G B (.own false id 0 n es) (.sl false n cs) := by
  intro d hd1
  have hlt := (List.getElem?_eq_some_iff.1 hG).1
  obtain ⟨d, rfl⟩ : ∃ e, d = e + 1 := ⟨d - 1, by omega⟩
  have all : ∀ cs : List AV, cs.all data1 = true → cs.mapM (frz d G) = some cs ∧ cs.flatMap (bor d G) = [] := by
    intro cs h
    induction cs with
    | nil => exact ⟨rfl, rfl⟩
    | cons c cs ih =>
      simp only [List.all_cons, Bool.and_eq_true] at h
      obtain ⟨i1, i2⟩ := ih h.2
      obtain ⟨f1, f2⟩ := Fz.data (G := G) (B := G.length) h.1 d (Nat.zero_le _)
      have f3 : bor d G c = [] := by
        cases e : bor d G c with
        | nil => rfl
        | cons b l => have := f2 b (by rw [e]; simp); omega
      simp [List.mapM_cons, f1, i1, i2, f3]
  obtain ⟨a1, a2⟩ := all cs hd
  have htk : (cs.drop 0).take (n * es) = cs := by rw [List.drop_zero, List.take_of_length_le (by omega)]
  refine ⟨?_, fun b hb => ?_⟩
  · simp only [frz, hG, htk, a1]
    rw [if_pos (by omega)]
    rfl
  · simp only [bor, hG, htk, a2, List.mem_singleton] at hb
    subst hb
    exact ⟨hB, hlt⟩

theorem mapM_some_of {α β : Type} {f : α → Option β} : ∀ {l : List α} {r : List β}, l.length = r.length → (∀ (i : Nat) (a : α) (b : β), l[i]? = some a → r[i]? = some b → f a = some b) → l.mapM f = some r
  | [], [], _, _ => rfl
  | [], _ :: _, h, _ => by simp at h
  | _ :: _, [], h, _ => by simp at h
  | a :: l, b :: r, h, hf => by
    have h0 := hf 0 a b rfl rfl
    have ih := mapM_some_of (f := f) (l := l) (r := r) (by simpa using h) (fun i x y h1 h2 => hf (i + 1) x y (by simpa using h1) (by simpa using h2))
    simp [List.mapM_cons, h0, ih]

/-- a list under way: nil, or a block whose cells stand for the values -/
def Grow (k : Nat) (G : Heap) (B : Nat) (v : AV) (ts : List AV) : Prop :=
  (ts = [] ∧ v = .sl true 0 []) ∨ ∃ id cs, v = .own false id 0 ts.length 1 ∧ G[id]? = some (.cells false false cs) ∧ B ≤ id ∧ cs.length = ts.length ∧
    ∀ (i : Nat) (c t : AV), cs[i]? = some c → ts[i]? = some t → Fz k G B c t ∧ ∀ d, k ≤ d → id ∉ bor d G c

theorem Grow.grow {k B : Nat} {G G' : Heap} {v : AV} {ts : List AV} (h : Grow k G B v ts) (hl : G.length ≤ G'.length) (he : ∀ b, B ≤ b → b < G.length → G'[b]? = G[b]?) : Grow k G' B v ts := by
  rcases h with h | ⟨id, cs, h1, h2, h3, h4, h5⟩
  · exact .inl h
  · have hlt := (List.getElem?_eq_some_iff.1 h2).1
    refine .inr ⟨id, cs, h1, by rw [he id h3 hlt]; exact h2, h3, h4, fun i c t hc ht => ?_⟩
    obtain ⟨g1, g2⟩ := h5 i c t hc ht
    refine ⟨g1.grow hl he, fun d hd hm => g2 d hd ?_⟩
    rw [(frz_frame d c (fun b hb => by have := (g1 d hd).2 b hb; exact he b this.1 this.2)).2] at hm
    exact hm

theorem Grow.fz {k B : Nat} {G : Heap} {v : AV} {ts : List AV} (h : Grow k G B v ts) : Fz (k + 1) G B v (.sl (ts.length == 0) ts.length ts) ∨ ts = [] := by
  rcases h with ⟨rfl, rfl⟩ | ⟨id, cs, rfl, h2, h3, h4, h5⟩
  · exact .inr rfl
  · by_cases h0 : ts = []
    · exact .inr h0
    left
    have hz : (ts.length == 0) = false := by
      cases ts with
      | nil => exact absurd rfl h0
      | cons => rfl
    rw [hz]
    intro d hd
    have hlt := (List.getElem?_eq_some_iff.1 h2).1
    obtain ⟨d, rfl⟩ : ∃ e, d = e + 1 := ⟨d - 1, by omega⟩
    have htk : (cs.drop 0).take (ts.length * 1) = cs := by rw [List.drop_zero, List.take_of_length_le (by omega)]
    have hm := mapM_some_of (f := frz d G) h4 (fun i a b ha hb => ((h5 i a b ha hb).1 d (by omega)).1)
    refine ⟨?_, fun b hb => ?_⟩
    · simp only [frz, h2, htk, hm]
      rw [if_pos (by omega)]
      rfl
    · simp only [bor, h2, htk, List.mem_cons, List.mem_flatMap] at hb
      rcases hb with rfl | ⟨c, hc, hb⟩
      · exact ⟨h3, hlt⟩
      · obtain ⟨i, hi, e⟩ := List.mem_iff_getElem.1 hc
        have hc' : cs[i]? = some c := by rw [List.getElem?_eq_getElem hi, e]
        exact ((h5 i c _ hc' (List.getElem?_eq_getElem (by omega))).1 d (by omega)).2 b hb

/-- the next value: from nothing -/
theorem Grow.first {k B : Nat} {G : Heap} {c t : AV} (hc : Fz k G B c t) (hB : B ≤ G.length) : Grow k (G ++ [.cells false false [c]]) B (.own false G.length 0 1 1) [t] := by
  refine .inr ⟨G.length, [c], rfl, by simp, hB, rfl, fun i a b ha hb => ?_⟩
  have e : i = 0 := by
    cases i with
    | zero => rfl
    | succ i => simp at ha
  subst e
  simp at ha hb
  subst ha; subst hb
  have hext : ∀ b, b < G.length → (G ++ [Blk.cells false false [c]])[b]? = G[b]? := fun b hb => List.getElem?_append_left hb
  refine ⟨hc.grow (by simp) (fun b _ hb => hext b hb), fun d hd hm => ?_⟩
  rw [(frz_frame d c (fun b hb => hext b ((hc d hd).2 b hb).2)).2] at hm
  have := (hc d hd).2 _ hm
  omega

/-- the next value: the block is laid anew -/
theorem Grow.push {k B id : Nat} {G : Heap} {ts cs : List AV} {c t : AV} (h2 : G[id]? = some (.cells false false cs)) (h3 : B ≤ id) (h4 : cs.length = ts.length)
    (h5 : ∀ (i : Nat) (c t : AV), cs[i]? = some c → ts[i]? = some t → Fz k G B c t ∧ ∀ d, k ≤ d → id ∉ bor d G c) (hc : Fz k G B c t) (hn : ∀ d, k ≤ d → id ∉ bor d G c) :
    Grow k (G.set id .dead ++ [.cells false false (cs ++ [c])]) B (.own false G.length 0 (ts.length + 1) 1) (ts ++ [t]) := by
  have hlt := (List.getElem?_eq_some_iff.1 h2).1
  refine .inr ⟨G.length, cs ++ [c], by simp, by rw [List.getElem?_append_right (by simp)]; simp, by omega, by simp [h4], fun i a b ha hb => ?_⟩
  have key : Fz k G B a b ∧ ∀ d, k ≤ d → id ∉ bor d G a := by
    by_cases hi : i < cs.length
    · rw [List.getElem?_append_left hi] at ha
      rw [List.getElem?_append_left (by omega)] at hb
      exact h5 i a b ha hb
    · rw [List.getElem?_append_right (by omega)] at ha
      rw [List.getElem?_append_right (by omega)] at hb
      have e : i - cs.length = 0 := by
        cases e : i - cs.length with
        | zero => rfl
        | succ j => rw [e] at ha; simp at ha
      rw [e] at ha
      rw [← h4, e] at hb
      simp at ha hb
      subst ha; subst hb
      exact ⟨hc, hn⟩
  obtain ⟨f1, f2⟩ := key
  have hext : ∀ d, k ≤ d → ∀ b ∈ bor d G a, (G.set id .dead ++ [Blk.cells false false (cs ++ [c])])[b]? = G[b]? := fun d hd b hb => by
    have := ((f1 d hd).2 b hb).2
    have hne : id ≠ b := by rintro rfl; exact f2 d hd hb
    rw [List.getElem?_append_left (by simpa using this), List.getElem?_set_ne hne]
  refine ⟨f1.frame (by simp) hext, fun d hd hm => ?_⟩
  rw [(frz_frame d a (hext d hd)).2] at hm
  have := ((f1 d hd).2 _ hm).2
  omega

end Go.Abs.Det
