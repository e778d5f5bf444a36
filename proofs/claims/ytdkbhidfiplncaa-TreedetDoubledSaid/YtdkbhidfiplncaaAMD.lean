/- Values over the caller's own blocks: what they stand for, and that other blocks do not matter. -/
import Derived.Test.YtdkbhidfiplncaaAbsEnc2
import Derived.Test.YtdkbhidfiplncaaAProg
namespace Go.Abs.Det
open Go Go.Abs
set_option linter.unusedSimpArgs false
set_option linter.unusedVariables false

theorem mapM_congr {α β : Type} {f g : α → Option β} : ∀ {l : List α}, (∀ a ∈ l, f a = g a) → l.mapM f = l.mapM g
  | [], _ => rfl
  | a :: l, h => by
    rw [List.mapM_cons, List.mapM_cons, h a (by simp), mapM_congr (fun b hb => h b (by simp [hb]))]

/-- other blocks do not matter -/
theorem frz_frame {G G' : Heap} : ∀ (d : Nat) (v : AV), (∀ b ∈ bor d G v, G'[b]? = G[b]?) → frz d G' v = frz d G v ∧ bor d G' v = bor d G v := by
  intro d
  induction d with
  | zero =>
    intro v h
    cases v <;> first | exact ⟨rfl, rfl⟩ | (rename_i f caps; cases caps <;> exact ⟨rfl, rfl⟩)
  | succ d ih =>
    intro v h
    have many : ∀ cs : List AV, (∀ b ∈ cs.flatMap (bor d G), G'[b]? = G[b]?) → cs.mapM (frz d G') = cs.mapM (frz d G) ∧ cs.flatMap (bor d G') = cs.flatMap (bor d G) := by
      intro cs hcs
      refine ⟨mapM_congr fun a ha => (ih a fun b hb => hcs b (List.mem_flatMap.2 ⟨a, ha, hb⟩)).1, ?_⟩
      induction cs with
      | nil => rfl
      | cons c cs ih2 =>
        simp only [List.flatMap_cons] at hcs ⊢
        rw [(ih c fun b hb => hcs b (List.mem_append.2 (.inl hb))).2, ih2 fun b hb => hcs b (List.mem_append.2 (.inr hb))]
    cases v
    case own z id off n es =>
      have h0 := h id (by simp [bor])
      simp only [frz, bor, h0]
      cases hG : G[id]? with
      | none => simp
      | some bk =>
        cases bk with
        | dead => simp
        | mp es => simp
        | loop => simp
        | cells fz z' cs =>
          obtain ⟨m1, m2⟩ := many ((cs.drop off).take (n * es)) (fun b hb => h b (by simp only [bor, hG]; exact List.mem_cons_of_mem _ hb))
          simp [m1, m2]
    case ptr id off =>
      have h0 := h id (by simp [bor])
      simp only [frz, bor, h0]
      cases hG : G[id]? with
      | none => simp
      | some bk =>
        cases bk with
        | dead => simp
        | mp es => simp
        | loop => simp
        | cells fz z' cs =>
          obtain ⟨m1, m2⟩ := many cs (fun b hb => h b (by simp only [bor, hG]; exact List.mem_cons_of_mem _ hb))
          simp [m1, m2]
    case agg cs =>
      obtain ⟨m1, m2⟩ := many cs h
      simp [frz, bor, m1, m2]
    case tup cs =>
      obtain ⟨m1, m2⟩ := many cs h
      simp [frz, bor, m1, m2]
    case func f caps => cases caps <;> exact ⟨rfl, rfl⟩
    all_goals exact ⟨rfl, rfl⟩

/-- v stands for t, over blocks from B on -/
def Fz (k : Nat) (G : Heap) (B : Nat) (v t : AV) : Prop := ∀ d, k ≤ d → frz d G v = some t ∧ ∀ b ∈ bor d G v, B ≤ b ∧ b < G.length

theorem Fz.frame {k B : Nat} {G G' : Heap} {v t : AV} (h : Fz k G B v t) (hl : G.length ≤ G'.length) (he : ∀ d, k ≤ d → ∀ b ∈ bor d G v, G'[b]? = G[b]?) : Fz k G' B v t := by
  intro d hd
  obtain ⟨h1, h2⟩ := h d hd
  obtain ⟨f1, f2⟩ := frz_frame d v (he d hd)
  exact ⟨f1.trans h1, fun b hb => by rw [f2] at hb; have := h2 b hb; omega⟩
theorem Fz.grow {k B : Nat} {G G' : Heap} {v t : AV} (h : Fz k G B v t) (hl : G.length ≤ G'.length) (he : ∀ b, B ≤ b → b < G.length → G'[b]? = G[b]?) : Fz k G' B v t :=
  h.frame hl fun d hd b hb => by have := (h d hd).2 b hb; exact he b this.1 this.2
theorem Fz.low {k B B' : Nat} {G : Heap} {v t : AV} (h : Fz k G B v t) (hb : B' ≤ B) : Fz k G B' v t :=
  fun d hd => ⟨(h d hd).1, fun b hb' => by have := (h d hd).2 b hb'; omega⟩

theorem Fz.data {G : Heap} {B : Nat} {v : AV} (h : data1 v = true) : Fz 0 G B v v := by
  intro d _
  cases v <;> simp [data1] at h
  case func f caps =>
    cases caps with
    | nil => exact ⟨by cases d <;> rfl, fun b hb => by cases d <;> simp [bor] at hb⟩
    | cons => simp at h
  all_goals exact ⟨by cases d <;> rfl, fun b hb => by cases d <;> simp [bor] at hb⟩

/-- a row of data -/
theorem Fz.row {G : Heap} {B id es n : Nat} {cs : List AV} (hG : G[id]? = some (.cells false false cs)) (hd : cs.all data1 = true) (hn : cs.length = n * es) (hB : B ≤ id) : Fz 1 G B (.own false id 0 n es) (.sl false n cs) := by
  intro d hd1
  have hlt := (List.getElem?_eq_some_iff.1 hG).1
  obtain ⟨d, rfl⟩ : ∃ e, d = e + 1 := ⟨d - 1, by omega⟩
  have all : ∀ cs : List AV, cs.all data1 = true → cs.mapM (frz d G) = some cs ∧ cs.flatMap (bor d G) = [] := by
    intro cs h
    induction cs with
    | nil => exact ⟨rfl, rfl⟩
    | cons c cs ih =>
      simp only [List.all_cons, Bool.and_eq_true] at h
      obtain ⟨i1, i2⟩ := ih h.2
      obtain ⟨f1, f2⟩ := Fz.data (G := G) (B := G.length) h.1 d (Nat.zero_le _)
      have f3 : bor d G c = [] := by
        cases e : bor d G c with
        | nil => rfl
        | cons b l => have := f2 b (by rw [e]; simp); omega
      simp [List.mapM_cons, f1, i1, i2, f3]
  obtain ⟨a1, a2⟩ := all cs hd
  have htk : (cs.drop 0).take (n * es) = cs := by rw [List.drop_zero, List.take_of_length_le (by omega)]
  refine ⟨?_, fun b hb => ?_⟩
  · simp only [frz, hG, htk, a1]
    rw [if_pos (by omega)]
    rfl
  · simp only [bor, hG, htk, a2, List.mem_singleton] at hb
    subst hb
    exact ⟨hB, hlt⟩

theorem mapM_some_of {α β : Type} {f : α → Option β} : ∀ {l : List α} {r : List β}, l.length = r.length → (∀ (i : Nat) (a : α) (b : β), l[i]? = some a → r[i]? = some b → f a = some b) → l.mapM f = some r
  | [], [], _, _ => rfl
  | [], _ :: _, h, _ => by simp at h
  | _ :: _, [], h, _ => by simp at h
  | a :: l, b :: r, h, hf => by
    have h0 := hf 0 a b rfl rfl
    have ih := mapM_some_of (f := f) (l := l) (r := r) (by simpa using h) (fun i x y h1 h2 => hf (i + 1) x y (by simpa using h1) (by simpa using h2))
    simp [List.mapM_cons, h0, ih]

/-- a list under way: nil, or a block whose cells stand for the values -/
def Grow (k : Nat) (G : Heap) (B : Nat) (v : AV) (ts : List AV) : Prop :=
  (ts = [] ∧ v = .sl true 0 []) ∨ ∃ id cs, v = .own false id 0 ts.length 1 ∧ G[id]? = some (.cells false false cs) ∧ B ≤ id ∧ cs.length = ts.length ∧
    ∀ (i : Nat) (c t : AV), cs[i]? = some c → ts[i]? = some t → Fz k G B c t ∧ ∀ d, k ≤ d → id ∉ bor d G c

theorem Grow.grow {k B : Nat} {G G' : Heap} {v : AV} {ts : List AV} (h : Grow k G B v ts) (hl : G.length ≤ G'.length) (he : ∀ b, B ≤ b → b < G.length → G'[b]? = G[b]?) : Grow k G' B v ts := by
  rcases h with h | ⟨id, cs, h1, h2, h3, h4, h5⟩
  · exact .inl h
  · have hlt := (List.getElem?_eq_some_iff.1 h2).1
    refine .inr ⟨id, cs, h1, by rw [he id h3 hlt]; exact h2, h3, h4, fun i c t hc ht => ?_⟩
    obtain ⟨g1, g2⟩ := h5 i c t hc ht
    refine ⟨g1.grow hl he, fun d hd hm => g2 d hd ?_⟩
    rw [(frz_frame d c (fun b hb => by have := (g1 d hd).2 b hb; exact he b this.1 this.2)).2] at hm
    exact hm

theorem Grow.fz {k B : Nat} {G : Heap} {v : AV} {ts : List AV} (h : Grow k G B v ts) : Fz (k + 1) G B v (.sl (ts.length == 0) ts.length ts) ∨ ts = [] := by
  rcases h with ⟨rfl, rfl⟩ | ⟨id, cs, rfl, h2, h3, h4, h5⟩
  · exact .inr rfl
  · by_cases h0 : ts = []
    · exact .inr h0
    left
    have hz : (ts.length == 0) = false := by
      cases ts with
      | nil => exact absurd rfl h0
      | cons => rfl
    rw [hz]
    intro d hd
    have hlt := (List.getElem?_eq_some_iff.1 h2).1
    obtain ⟨d, rfl⟩ : ∃ e, d = e + 1 := ⟨d - 1, by omega⟩
    have htk : (cs.drop 0).take (ts.length * 1) = cs := by rw [List.drop_zero, List.take_of_length_le (by omega)]
    have hm := mapM_some_of (f := frz d G) h4 (fun i a b ha hb => ((h5 i a b ha hb).1 d (by omega)).1)
    refine ⟨?_, fun b hb => ?_⟩
    · simp only [frz, h2, htk, hm]
      rw [if_pos (by omega)]
      rfl
    · simp only [bor, h2, htk, List.mem_cons, List.mem_flatMap] at hb
      rcases hb with rfl | ⟨c, hc, hb⟩
      · exact ⟨h3, hlt⟩
      · obtain ⟨i, hi, e⟩ := List.mem_iff_getElem.1 hc
        have hc' : cs[i]? = some c := by rw [List.getElem?_eq_getElem hi, e]
        exact ((h5 i c _ hc' (List.getElem?_eq_getElem (by omega))).1 d (by omega)).2 b hb

/-- the next value: from nothing -/
theorem Grow.first {k B : Nat} {G : Heap} {c t : AV} (hc : Fz k G B c t) (hB : B ≤ G.length) : Grow k (G ++ [.cells false false [c]]) B (.own false G.length 0 1 1) [t] := by
  refine .inr ⟨G.length, [c], rfl, by simp, hB, rfl, fun i a b ha hb => ?_⟩
  have e : i = 0 := by
    cases i with
    | zero => rfl
    | succ i => simp at ha
  subst e
  simp at ha hb
  subst ha; subst hb
  have hext : ∀ b, b < G.length → (G ++ [Blk.cells false false [c]])[b]? = G[b]? := fun b hb => List.getElem?_append_left hb
  refine ⟨hc.grow (by simp) (fun b _ hb => hext b hb), fun d hd hm => ?_⟩
  rw [(frz_frame d c (fun b hb => hext b ((hc d hd).2 b hb).2)).2] at hm
  have := (hc d hd).2 _ hm
  omega

/-- the next value: the block is laid anew -/
theorem Grow.push {k B id : Nat} {G : Heap} {ts cs : List AV} {c t : AV} (h2 : G[id]? = some (.cells false false cs)) (h3 : B ≤ id) (h4 : cs.length = ts.length)
    (h5 : ∀ (i : Nat) (c t : AV), cs[i]? = some c → ts[i]? = some t → Fz k G B c t ∧ ∀ d, k ≤ d → id ∉ bor d G c) (hc : Fz k G B c t) (hn : ∀ d, k ≤ d → id ∉ bor d G c) :
    Grow k (G.set id .dead ++ [.cells false false (cs ++ [c])]) B (.own false G.length 0 (ts.length + 1) 1) (ts ++ [t]) := by
  have hlt := (List.getElem?_eq_some_iff.1 h2).1
  refine .inr ⟨G.length, cs ++ [c], by simp, by rw [List.getElem?_append_right (by simp)]; simp, by omega, by simp [h4], fun i a b ha hb => ?_⟩
  have key : Fz k G B a b ∧ ∀ d, k ≤ d → id ∉ bor d G a := by
    by_cases hi : i < cs.length
    · rw [List.getElem?_append_left hi] at ha
      rw [List.getElem?_append_left (by omega)] at hb
      exact h5 i a b ha hb
    · rw [List.getElem?_append_right (by omega)] at ha
      rw [List.getElem?_append_right (by omega)] at hb
      have e : i - cs.length = 0 := by
        cases e : i - cs.length with
        | zero => rfl
        | succ j => rw [e] at ha; simp at ha
      rw [e] at ha
      rw [← h4, e] at hb
      simp at ha hb
      subst ha; subst hb
      exact ⟨hc, hn⟩
  obtain ⟨f1, f2⟩ := key
  have hext : ∀ d, k ≤ d → ∀ b ∈ bor d G a, (G.set id .dead ++ [Blk.cells false false (cs ++ [c])])[b]? = G[b]? := fun d hd b hb => by
    have := ((f1 d hd).2 b hb).2
    have hne : id ≠ b := by rintro rfl; exact f2 d hd hb
    rw [List.getElem?_append_left (by simpa using this), List.getElem?_set_ne hne]
  refine ⟨f1.frame (by simp) hext, fun d hd hm => ?_⟩
  rw [(frz_frame d a (hext d hd)).2] at hm
  have := ((f1 d hd).2 _ hm).2
  omega

end Go.Abs.Det

/- Trees: end, formed, Check. -/
namespace Go.Abs.Det
open Go Go.Abs
set_option linter.unusedSimpArgs false
set_option linter.unusedVariables false

noncomputable abbrev L : Rec := lim aprog

abbrev iw (z : Bool) (l : List Int) : AV := .sl z l.length (ints l)
theorem drop_getI {l : List Int} {i : Nat} (h : i < l.length) : l.drop i = l.getD i 0 :: l.drop (i + 1) := by
  rw [List.drop_eq_getElem_cons h]
  simp [List.getD, List.getElem?_eq_getElem h]
theorem app_get {G X : Heap} {b : Nat} {x : Blk} (h : G[b]? = some x) : (G ++ X)[b]? = some x := by
  rw [List.getElem?_append_left (List.getElem?_eq_some_iff.1 h).1]; exact h
theorem take_len {α : Type} (k : Nat) (l : List α) : List.take (l.take k).length l = l.take k := by
  rw [List.length_take]
  rcases Nat.le_total k l.length with h | h
  · rw [Nat.min_eq_left h]
  · rw [Nat.min_eq_right h, List.take_of_length_le h, List.take_of_length_le (Nat.le_refl _)]

structure Lf where
  x : Nat
  l : Int
  r : Int
def f0 : Lf := ⟨0, 0, 0⟩
def encF (e : Lf) : List AV := [.int .u8 (e.x : Nat), .int .i64 e.l, .int .i64 e.r]
def lfs (l : List Lf) : List AV := rows encF l
abbrev tw (z : Bool) (t : List Lf) : AV := .sl z t.length (lfs t)
theorem lfs_length (l : List Lf) : (lfs l).length = l.length * 3 := rows_length (enc := encF) (k := 3) (fun _ => rfl) l
theorem lfs_drop {l : List Lf} {i : Nat} (h : i < l.length) : List.drop (i * 3) (lfs l) = encF (l.getD i f0) ++ lfs (l.drop (i + 1)) := by
  unfold lfs
  rw [rows_drop (enc := encF) (k := 3) (fun _ => rfl), List.drop_eq_getElem_cons h]
  have : l.getD i f0 = l[i] := by simp [List.getD, List.getElem?_eq_getElem h]
  rw [this]
  rfl
theorem lfs_at {l : List Lf} {i : Nat} (h : i < l.length) : List.take 3 (List.drop (i * 3) (lfs l)) = [.int .u8 ((l.getD i f0).x : Nat), .int .i64 (l.getD i f0).l, .int .i64 (l.getD i f0).r] := by
  rw [lfs_drop h]; rfl
theorem lfs_at1 {l : List Lf} {i : Nat} (h : i < l.length) : List.take 1 (List.drop (i * 3 + 1) (lfs l)) = [.int .i64 (l.getD i f0).l] := by
  rw [← List.drop_drop, lfs_drop h]; rfl
theorem lfs_at2 {l : List Lf} {i : Nat} (h : i < l.length) : List.take 1 (List.drop (i * 3 + 2) (lfs l)) = [.int .i64 (l.getD i f0).r] := by
  rw [← List.drop_drop, lfs_drop h]; rfl
theorem drop_getF {l : List Lf} {i : Nat} (h : i < l.length) : l.drop i = l.getD i f0 :: l.drop (i + 1) := by
  rw [List.drop_eq_getElem_cons h]
  simp [List.getD, List.getElem?_eq_getElem h]
theorem getF_mem {l : List Lf} {i : Nat} (h : i < l.length) : l.getD i f0 ∈ l := by
  rw [List.getD_eq_getElem?_getD, List.getElem?_eq_getElem h]
  exact List.getElem_mem _

/-- binary trees -/
inductive BT
  | nil
  | node (x : Nat) (l r : BT)

/-- child c, a tree T; its block begins at m if there is one, and ends before n -/
inductive Sub (t : List Lf) : Int → Nat → BT → Nat → Prop
  | none (m : Nat) : Sub t (-1) m .nil m
  | some {m k n : Nat} {l r : BT} (hm : m < t.length) (hl : Sub t (t.getD m f0).l (m + 1) l k) (hr : Sub t (t.getD m f0).r k r n) : Sub t (m : Int) m (.node (t.getD m f0).x l r) n

noncomputable abbrev LP (z : Bool) (t : List Lf) (H : Heap) (l r : Int) (s4 : AV) (next j : Int) := L.loop a114l0s a114l0 ⟨a114l0F (tw z t) s4 (.int .i64 next) (.agg [.int .i64 l, .int .i64 r]) (.int .i64 j), H⟩
abbrev LQ (z : Bool) (t : List Lf) (H : Heap) (l r : Int) (s4 : AV) (next j : Int) : St := ⟨a114l0F (tw z t) s4 (.int .i64 next) (.agg [.int .i64 l, .int .i64 r]) (.int .i64 j), H⟩

section
variable {z : Bool} {t : List Lf} {H : Heap} {l r : Int} {s4 : AV}
theorem end2 (next : Int) : LP z t H l r s4 next 2 = some (.exit 0, LQ z t H l r s4 next 2) := by
  unfold LP
  rw [a114l0n]
  simp (maxSteps := 30000000) (disch := first | assumption | omega | (simp only [List.length_cons, List.length_nil, List.length_append, List.length_set, List.length_replicate, List.length_map, List.length_range, List.length_take, List.length_drop, List.all_cons, List.all_nil, AV.isCell, Bool.and_self, Bool.and_true, bs_length, is64_length, w64_length, ints_length, lfs_length] <;> omega) | rfl | decide) only [a114l0b, Int.reduceNeg, run_seq, run_region, runOps_cons, oper_none, ex_bin, opv, List.getD_cons_succ, List.getD_cons_zero, bin_lss, Int.lt_irrefl, decide_false, valK_some, putK_to, List.set_cons_succ, List.set_cons_zero, opsK_some, runOps_nil, regK_some, seqK_normal, run_cond, condK_bool, Bool.false_eq_true, ↓reduceIte, run_exit, seqK_exit, loopK_exit, a114l0c]
theorem endA (next : Int) {c j : Int} (hj : j = 0 ∧ c = l ∨ j = 1 ∧ c = r) (hc : c = -1) : LP z t H l r s4 next j = LP z t H l r s4 next (j + 1) := by
  unfold LP
  rcases hj with ⟨rfl, rfl⟩ | ⟨rfl, rfl⟩
  · rw [a114l0n]
    simp (maxSteps := 30000000) (disch := first | assumption | omega | (simp only [List.length_cons, List.length_nil, List.length_append, List.length_set, List.length_replicate, List.length_map, List.length_range, List.length_take, List.length_drop, List.all_cons, List.all_nil, AV.isCell, Bool.and_self, Bool.and_true, bs_length, is64_length, w64_length, ints_length, lfs_length] <;> omega) | rfl | decide) only [a114l0b, Int.reduceNeg, hc, run_seq, run_region, runOps_cons, oper_none, ex_bin, opv, List.getD_cons_succ, List.getD_cons_zero, bin_lss, Int.reduceLT, decide_true, valK_some, putK_to, List.set_cons_succ, List.set_cons_zero, opsK_some, runOps_nil, regK_some, seqK_normal, run_cond, condK_bool, ↓reduceIte, run_skip, run_block, ex_idx, idxA_agg, Int.toNat_zero, Nat.mul_one, List.drop_zero, List.take_succ_cons, List.take_zero, mkv_1, ex_mov, bin_eql, run_exit, blockK_exit, Nat.reduceEqDiff, seqK_exit, bin_add, Int.zero_add, wr64, loopK_normal, a114l0c]
  · rw [a114l0n]
    simp (maxSteps := 30000000) (disch := first | assumption | omega | (simp only [List.length_cons, List.length_nil, List.length_append, List.length_set, List.length_replicate, List.length_map, List.length_range, List.length_take, List.length_drop, List.all_cons, List.all_nil, AV.isCell, Bool.and_self, Bool.and_true, bs_length, is64_length, w64_length, ints_length, lfs_length] <;> omega) | rfl | decide) only [a114l0b, Int.reduceNeg, hc, run_seq, run_region, runOps_cons, oper_none, ex_bin, opv, List.getD_cons_succ, List.getD_cons_zero, bin_lss, Int.reduceLT, decide_true, valK_some, putK_to, List.set_cons_succ, List.set_cons_zero, opsK_some, runOps_nil, regK_some, seqK_normal, run_cond, condK_bool, ↓reduceIte, run_skip, run_block, ex_idx, idxA_agg, Int.toNat_one, Nat.mul_one, List.drop_succ_cons, List.drop_zero, List.take_succ_cons, List.take_nil, mkv_1, ex_mov, bin_eql, run_exit, blockK_exit, Nat.reduceEqDiff, seqK_exit, bin_add, Int.reduceAdd, wr64, loopK_normal, a114l0c]
theorem endB (next : Nat) {c j : Int} (hj : j = 0 ∧ c = l ∨ j = 1 ∧ c = r) (hc : c ≠ -1) (hb : c ≠ (next : Int) ∨ t.length ≤ next) : LP z t H l r s4 (next : Nat) j = some (.ret, LQ z t H l r (.int .i64 (-1)) (next : Nat) j) := by
  unfold LP
  rcases hj with ⟨rfl, rfl⟩ | ⟨rfl, rfl⟩ <;> rw [a114l0n] <;> by_cases h1 : c = (next : Int)
  · have h2 : ((t.length : Nat) : Int) ≤ (next : Nat) := by omega
    have h3 : ¬ ((next : Nat) : Int) = -1 := by omega
    simp (maxSteps := 30000000) (disch := first | assumption | omega | (simp only [List.length_cons, List.length_nil, List.length_append, List.length_set, List.length_replicate, List.length_map, List.length_range, List.length_take, List.length_drop, List.all_cons, List.all_nil, AV.isCell, Bool.and_self, Bool.and_true, bs_length, is64_length, w64_length, ints_length, lfs_length] <;> omega) | rfl | decide) only [a114l0b, Int.reduceNeg, h1, run_seq, run_region, runOps_cons, oper_none, ex_bin, opv, List.getD_cons_succ, List.getD_cons_zero, bin_lss, Int.reduceLT, decide_true, valK_some, putK_to, List.set_cons_succ, List.set_cons_zero, opsK_some, runOps_nil, regK_some, seqK_normal, run_cond, condK_bool, ↓reduceIte, run_skip, run_block, ex_idx, idxA_agg, Int.toNat_zero, Nat.mul_one, List.drop_zero, List.take_succ_cons, List.take_zero, mkv_1, ex_mov, bin_eql, h3, decide_false, Bool.false_eq_true, bin_neq, Bool.not_true, oper_guard, guardK_bool, ex_len, lenA_sl, bin_geq, h2, ex_pick, pickA_bool, run_ret, blockK_ret, seqK_ret, loopK_ret, a114l0c]
  · simp (maxSteps := 30000000) (disch := first | assumption | omega | (simp only [List.length_cons, List.length_nil, List.length_append, List.length_set, List.length_replicate, List.length_map, List.length_range, List.length_take, List.length_drop, List.all_cons, List.all_nil, AV.isCell, Bool.and_self, Bool.and_true, bs_length, is64_length, w64_length, ints_length, lfs_length] <;> omega) | rfl | decide) only [a114l0b, Int.reduceNeg, run_seq, run_region, runOps_cons, oper_none, ex_bin, opv, List.getD_cons_succ, List.getD_cons_zero, bin_lss, Int.reduceLT, decide_true, valK_some, putK_to, List.set_cons_succ, List.set_cons_zero, opsK_some, runOps_nil, regK_some, seqK_normal, run_cond, condK_bool, ↓reduceIte, run_skip, run_block, ex_idx, idxA_agg, Int.toNat_zero, Nat.mul_one, List.drop_zero, List.take_succ_cons, List.take_zero, mkv_1, ex_mov, bin_eql, hc, decide_false, Bool.false_eq_true, bin_neq, h1, Bool.not_false, oper_guard, guardK_bool, Bool.true_eq_false, putA_to, ex_pick, pickA_bool, run_ret, blockK_ret, seqK_ret, loopK_ret, a114l0c]
  · have h2 : ((t.length : Nat) : Int) ≤ (next : Nat) := by omega
    have h3 : ¬ ((next : Nat) : Int) = -1 := by omega
    simp (maxSteps := 30000000) (disch := first | assumption | omega | (simp only [List.length_cons, List.length_nil, List.length_append, List.length_set, List.length_replicate, List.length_map, List.length_range, List.length_take, List.length_drop, List.all_cons, List.all_nil, AV.isCell, Bool.and_self, Bool.and_true, bs_length, is64_length, w64_length, ints_length, lfs_length] <;> omega) | rfl | decide) only [a114l0b, Int.reduceNeg, h1, run_seq, run_region, runOps_cons, oper_none, ex_bin, opv, List.getD_cons_succ, List.getD_cons_zero, bin_lss, Int.reduceLT, decide_true, valK_some, putK_to, List.set_cons_succ, List.set_cons_zero, opsK_some, runOps_nil, regK_some, seqK_normal, run_cond, condK_bool, ↓reduceIte, run_skip, run_block, ex_idx, idxA_agg, Int.toNat_one, Nat.mul_one, List.drop_succ_cons, List.drop_zero, List.take_succ_cons, List.take_nil, mkv_1, ex_mov, bin_eql, h3, decide_false, Bool.false_eq_true, bin_neq, Bool.not_true, oper_guard, guardK_bool, ex_len, lenA_sl, bin_geq, h2, ex_pick, pickA_bool, run_ret, blockK_ret, seqK_ret, loopK_ret, a114l0c]
  · simp (maxSteps := 30000000) (disch := first | assumption | omega | (simp only [List.length_cons, List.length_nil, List.length_append, List.length_set, List.length_replicate, List.length_map, List.length_range, List.length_take, List.length_drop, List.all_cons, List.all_nil, AV.isCell, Bool.and_self, Bool.and_true, bs_length, is64_length, w64_length, ints_length, lfs_length] <;> omega) | rfl | decide) only [a114l0b, Int.reduceNeg, run_seq, run_region, runOps_cons, oper_none, ex_bin, opv, List.getD_cons_succ, List.getD_cons_zero, bin_lss, Int.reduceLT, decide_true, valK_some, putK_to, List.set_cons_succ, List.set_cons_zero, opsK_some, runOps_nil, regK_some, seqK_normal, run_cond, condK_bool, ↓reduceIte, run_skip, run_block, ex_idx, idxA_agg, Int.toNat_one, Nat.mul_one, List.drop_succ_cons, List.drop_zero, List.take_succ_cons, List.take_nil, mkv_1, ex_mov, bin_eql, hc, decide_false, Bool.false_eq_true, bin_neq, h1, Bool.not_false, oper_guard, guardK_bool, Bool.true_eq_false, putA_to, ex_pick, pickA_bool, run_ret, blockK_ret, seqK_ret, loopK_ret, a114l0c]
theorem endC (next : Nat) {c j : Int} (hj : j = 0 ∧ c = l ∨ j = 1 ∧ c = r) (hb : c = (next : Int)) (hn : next < t.length) (hq : L.pcall 114 [tw z t, .int .i64 (next : Nat)] = some (.int .i64 (-1))) : LP z t H l r s4 (next : Nat) j = some (.ret, LQ z t H l r (.int .i64 (-1)) (-1) j) := by
  have h2 : ¬ ((t.length : Nat) : Int) ≤ (next : Nat) := by omega
  have h3 : ¬ ((next : Nat) : Int) = -1 := by omega
  subst hb
  unfold LP
  rcases hj with ⟨rfl, rfl⟩ | ⟨rfl, rfl⟩ <;> rw [a114l0n]
  · simp (maxSteps := 30000000) (disch := first | assumption | omega | (simp only [List.length_cons, List.length_nil, List.length_append, List.length_set, List.length_replicate, List.length_map, List.length_range, List.length_take, List.length_drop, List.all_cons, List.all_nil, AV.isCell, Bool.and_self, Bool.and_true, bs_length, is64_length, w64_length, ints_length, lfs_length] <;> omega) | rfl | decide) only [a114l0b, Int.reduceNeg, run_seq, run_region, runOps_cons, oper_none, ex_bin, opv, List.getD_cons_succ, List.getD_cons_zero, bin_lss, Int.reduceLT, decide_true, valK_some, putK_to, List.set_cons_succ, List.set_cons_zero, opsK_some, runOps_nil, regK_some, seqK_normal, run_cond, condK_bool, ↓reduceIte, run_skip, run_block, ex_idx, idxA_agg, Int.toNat_zero, Nat.mul_one, List.drop_zero, List.take_succ_cons, List.take_zero, mkv_1, ex_mov, bin_eql, h3, decide_false, Bool.false_eq_true, bin_neq, Bool.not_true, oper_guard, guardK_bool, ex_len, lenA_sl, bin_geq, h2, ex_pick, pickA_bool, blockK_normal, ex_call, List.map_cons, List.map_nil, pcallA_eq, frzN, List.mapM_cons, frz_sl, frz_int, List.mapM_nil, Option.pure_def, Option.bind_eq_bind, Option.bind_some, argK_some, hq, retK_some, scal, scal1, run_ret, blockK_ret, seqK_ret, loopK_ret, a114l0c]
  · simp (maxSteps := 30000000) (disch := first | assumption | omega | (simp only [List.length_cons, List.length_nil, List.length_append, List.length_set, List.length_replicate, List.length_map, List.length_range, List.length_take, List.length_drop, List.all_cons, List.all_nil, AV.isCell, Bool.and_self, Bool.and_true, bs_length, is64_length, w64_length, ints_length, lfs_length] <;> omega) | rfl | decide) only [a114l0b, Int.reduceNeg, run_seq, run_region, runOps_cons, oper_none, ex_bin, opv, List.getD_cons_succ, List.getD_cons_zero, bin_lss, Int.reduceLT, decide_true, valK_some, putK_to, List.set_cons_succ, List.set_cons_zero, opsK_some, runOps_nil, regK_some, seqK_normal, run_cond, condK_bool, ↓reduceIte, run_skip, run_block, ex_idx, idxA_agg, Int.toNat_one, Nat.mul_one, List.drop_succ_cons, List.drop_zero, List.take_succ_cons, List.take_nil, mkv_1, ex_mov, bin_eql, h3, decide_false, Bool.false_eq_true, bin_neq, Bool.not_true, oper_guard, guardK_bool, ex_len, lenA_sl, bin_geq, h2, ex_pick, pickA_bool, blockK_normal, ex_call, List.map_cons, List.map_nil, pcallA_eq, frzN, List.mapM_cons, frz_sl, frz_int, List.mapM_nil, Option.pure_def, Option.bind_eq_bind, Option.bind_some, argK_some, hq, retK_some, scal, scal1, run_ret, blockK_ret, seqK_ret, loopK_ret, a114l0c]
theorem endD (next m : Nat) {c j : Int} (hj : j = 0 ∧ c = l ∨ j = 1 ∧ c = r) (hb : c = (next : Int)) (hn : next < t.length) (hq : L.pcall 114 [tw z t, .int .i64 (next : Nat)] = some (.int .i64 (m : Nat))) : LP z t H l r s4 (next : Nat) j = LP z t H l r s4 (m : Nat) (j + 1) := by
  have h2 : ¬ ((t.length : Nat) : Int) ≤ (next : Nat) := by omega
  have h3 : ¬ ((next : Nat) : Int) = -1 := by omega
  have h4 : ¬ ((m : Nat) : Int) = -1 := by omega
  subst hb
  unfold LP
  rcases hj with ⟨rfl, rfl⟩ | ⟨rfl, rfl⟩ <;> rw [a114l0n]
  · simp (maxSteps := 30000000) (disch := first | assumption | omega | (simp only [List.length_cons, List.length_nil, List.length_append, List.length_set, List.length_replicate, List.length_map, List.length_range, List.length_take, List.length_drop, List.all_cons, List.all_nil, AV.isCell, Bool.and_self, Bool.and_true, bs_length, is64_length, w64_length, ints_length, lfs_length] <;> omega) | rfl | decide) only [a114l0b, Int.reduceNeg, run_seq, run_region, runOps_cons, oper_none, ex_bin, opv, List.getD_cons_succ, List.getD_cons_zero, bin_lss, Int.reduceLT, decide_true, valK_some, putK_to, List.set_cons_succ, List.set_cons_zero, opsK_some, runOps_nil, regK_some, seqK_normal, run_cond, condK_bool, ↓reduceIte, run_skip, run_block, ex_idx, idxA_agg, Int.toNat_zero, Nat.mul_one, List.drop_zero, List.take_succ_cons, List.take_zero, mkv_1, ex_mov, bin_eql, h3, decide_false, Bool.false_eq_true, bin_neq, Bool.not_true, oper_guard, guardK_bool, ex_len, lenA_sl, bin_geq, h2, ex_pick, pickA_bool, blockK_normal, ex_call, List.map_cons, List.map_nil, pcallA_eq, frzN, List.mapM_cons, frz_sl, frz_int, List.mapM_nil, Option.pure_def, Option.bind_eq_bind, Option.bind_some, argK_some, hq, retK_some, scal, scal1, h4, bin_add, Int.zero_add, wr64, loopK_normal, a114l0c]
  · simp (maxSteps := 30000000) (disch := first | assumption | omega | (simp only [List.length_cons, List.length_nil, List.length_append, List.length_set, List.length_replicate, List.length_map, List.length_range, List.length_take, List.length_drop, List.all_cons, List.all_nil, AV.isCell, Bool.and_self, Bool.and_true, bs_length, is64_length, w64_length, ints_length, lfs_length] <;> omega) | rfl | decide) only [a114l0b, Int.reduceNeg, run_seq, run_region, runOps_cons, oper_none, ex_bin, opv, List.getD_cons_succ, List.getD_cons_zero, bin_lss, Int.reduceLT, decide_true, valK_some, putK_to, List.set_cons_succ, List.set_cons_zero, opsK_some, runOps_nil, regK_some, seqK_normal, run_cond, condK_bool, ↓reduceIte, run_skip, run_block, ex_idx, idxA_agg, Int.toNat_one, Nat.mul_one, List.drop_succ_cons, List.drop_zero, List.take_succ_cons, List.take_nil, mkv_1, ex_mov, bin_eql, h3, decide_false, Bool.false_eq_true, bin_neq, Bool.not_true, oper_guard, guardK_bool, ex_len, lenA_sl, bin_geq, h2, ex_pick, pickA_bool, blockK_normal, ex_call, List.map_cons, List.map_nil, pcallA_eq, frzN, List.mapM_cons, frz_sl, frz_int, List.mapM_nil, Option.pure_def, Option.bind_eq_bind, Option.bind_some, argK_some, hq, retK_some, scal, scal1, h4, bin_add, Int.reduceAdd, wr64, loopK_normal, a114l0c]
end

theorem end_exit {z : Bool} {t : List Lf} {i n : Nat} (ht : t.length < 1099511627776) (hi : i < t.length) (h : LP z t [] (t.getD i f0).l (t.getD i f0).r (.int .i64 0) ((i + 1 : Nat) : Int) 0 = some (.exit 0, LQ z t [] (t.getD i f0).l (t.getD i f0).r (.int .i64 0) (n : Nat) 2)) :
    L.pcall 114 [tw z t, .int .i64 (i : Nat)] = some (.int .i64 (n : Nat)) := by
  unfold LP LQ at h
  rw [a114p, a114, pbodyA_eq]
  simp (maxSteps := 30000000) (disch := first | assumption | omega | (simp only [List.length_cons, List.length_nil, List.length_append, List.length_set, List.length_replicate, List.length_map, List.length_range, List.length_take, List.length_drop, List.all_cons, List.all_nil, AV.isCell, Bool.and_self, Bool.and_true, bs_length, is64_length, w64_length, ints_length, lfs_length] <;> omega) | rfl | decide) only [bodyA_eq, List.length_cons, List.length_nil, Nat.zero_add, Nat.reduceAdd, Nat.reduceSub, pads, List.cons_append, List.nil_append, run_seq, run_region, runOps_cons, oper_none, ex_mov, opv, putK_to, List.set_cons_succ, List.set_cons_zero, opsK_some, runOps_nil, regK_some, seqK_normal, List.getD_cons_succ, List.getD_cons_zero, ex_bin, bin_add, cadd1, wr64, valK_some, run_draw, List.take_succ_cons, List.take_nil, runFree_cons, foper_none, fe_mov, fstK_some, fputK_to, freeK_some, fe_iaddr, ex_iaddr, iaddrA_sl, Int.toNat_natCast, fe_faddr, ex_faddr, faddrA_vptr, fe_load, ex_load, rd_vptr, lfs_at1, loadK_1, lfs_at2, fe_build, ex_build, AV.cells, List.all_cons, beq_self_eq_true, List.all_nil, Bool.and_self, ↓reduceIte, List.map_cons, List.map_nil, fillA, Nat.reduceLeDiff, AV.isCell, and_self, splice, List.take_zero, List.drop_succ_cons, List.drop_zero, Nat.le_refl, List.drop_nil, List.append_nil, Option.map_some, runFree_nil, drawK_some, adopt, adoptVal, run_block, run_loop, a114l0c, h, blockK_exit, run_ret, bodyK_ret, results_1, res_tmp, retvK_some, pbodyK_some, frzN, frz_int]
theorem end_ret {z : Bool} {t : List Lf} {i : Nat} {n j : Int} (ht : t.length < 1099511627776) (hi : i < t.length) (h : LP z t [] (t.getD i f0).l (t.getD i f0).r (.int .i64 0) ((i + 1 : Nat) : Int) 0 = some (.ret, LQ z t [] (t.getD i f0).l (t.getD i f0).r (.int .i64 (-1)) n j)) :
    L.pcall 114 [tw z t, .int .i64 (i : Nat)] = some (.int .i64 (-1)) := by
  unfold LP LQ at h
  rw [a114p, a114, pbodyA_eq]
  simp (maxSteps := 30000000) (disch := first | assumption | omega | (simp only [List.length_cons, List.length_nil, List.length_append, List.length_set, List.length_replicate, List.length_map, List.length_range, List.length_take, List.length_drop, List.all_cons, List.all_nil, AV.isCell, Bool.and_self, Bool.and_true, bs_length, is64_length, w64_length, ints_length, lfs_length] <;> omega) | rfl | decide) only [bodyA_eq, List.length_cons, List.length_nil, Nat.zero_add, Nat.reduceAdd, Nat.reduceSub, pads, List.cons_append, List.nil_append, run_seq, run_region, runOps_cons, oper_none, ex_mov, opv, putK_to, List.set_cons_succ, List.set_cons_zero, opsK_some, runOps_nil, regK_some, seqK_normal, List.getD_cons_succ, List.getD_cons_zero, ex_bin, bin_add, cadd1, wr64, valK_some, run_draw, List.take_succ_cons, List.take_nil, runFree_cons, foper_none, fe_mov, fstK_some, fputK_to, freeK_some, fe_iaddr, ex_iaddr, iaddrA_sl, Int.toNat_natCast, fe_faddr, ex_faddr, faddrA_vptr, fe_load, ex_load, rd_vptr, lfs_at1, loadK_1, lfs_at2, fe_build, ex_build, AV.cells, List.all_cons, beq_self_eq_true, List.all_nil, Bool.and_self, ↓reduceIte, List.map_cons, List.map_nil, fillA, Nat.reduceLeDiff, AV.isCell, and_self, splice, List.take_zero, List.drop_succ_cons, List.drop_zero, Nat.le_refl, List.drop_nil, List.append_nil, Option.map_some, runFree_nil, drawK_some, adopt, adoptVal, run_block, run_loop, a114l0c, h, Int.reduceNeg, blockK_ret, seqK_ret, bodyK_ret, results_1, res_tmp, retvK_some, pbodyK_some, frzN, frz_int]

theorem end_ex {z : Bool} {t : List Lf} (ht : t.length < 1099511627776) : ∀ k i, i < t.length → t.length ≤ i + k →
    L.pcall 114 [tw z t, .int .i64 (i : Nat)] = some (.int .i64 (-1)) ∨ ∃ n T, L.pcall 114 [tw z t, .int .i64 (i : Nat)] = some (.int .i64 (n : Nat)) ∧ i < n ∧ n ≤ t.length ∧ Sub t (i : Int) i T n
  | 0, i, hi, hk => by omega
  | k + 1, i, hi, hk => by
    have ih := fun i' (h : i < i') (h2 : i' < t.length) => end_ex (z := z) ht k i' h2 (by omega)
    -- after the first child
    have first : (∃ n j, LP z t [] (t.getD i f0).l (t.getD i f0).r (.int .i64 0) ((i + 1 : Nat) : Int) 0 = some (.ret, LQ z t [] (t.getD i f0).l (t.getD i f0).r (.int .i64 (-1)) n j)) ∨
        ∃ m T, i < m ∧ m ≤ t.length ∧ Sub t (t.getD i f0).l (i + 1) T m ∧ LP z t [] (t.getD i f0).l (t.getD i f0).r (.int .i64 0) ((i + 1 : Nat) : Int) 0 = LP z t [] (t.getD i f0).l (t.getD i f0).r (.int .i64 0) (m : Nat) 1 := by
      by_cases c1 : (t.getD i f0).l = -1
      · exact .inr ⟨i + 1, .nil, by omega, by omega, c1 ▸ .none _, endA _ (.inl ⟨rfl, rfl⟩) c1⟩
      · by_cases c2 : (t.getD i f0).l ≠ ((i + 1 : Nat) : Int) ∨ t.length ≤ i + 1
        · exact .inl ⟨_, _, endB (i + 1) (.inl ⟨rfl, rfl⟩) c1 c2⟩
        · have c3 : (t.getD i f0).l = ((i + 1 : Nat) : Int) := by omega
          rcases ih (i + 1) (by omega) (by omega) with q | ⟨m, T, q, q1, q2, q3⟩
          · exact .inl ⟨_, _, endC (i + 1) (.inl ⟨rfl, rfl⟩) c3 (by omega) q⟩
          · exact .inr ⟨m, T, by omega, q2, c3 ▸ q3, endD (i + 1) m (.inl ⟨rfl, rfl⟩) c3 (by omega) q⟩
    rcases first with ⟨n, j, h⟩ | ⟨m, T, m1, m2, hT, h⟩
    · exact .inl (end_ret ht hi h)
    · by_cases c1 : (t.getD i f0).r = -1
      · refine .inr ⟨m, .node (t.getD i f0).x T .nil, end_exit ht hi (by rw [h, endA _ (.inr ⟨rfl, rfl⟩) c1]; exact end2 _), m1, m2, .some hi hT (c1 ▸ .none _)⟩
      · by_cases c2 : (t.getD i f0).r ≠ (m : Int) ∨ t.length ≤ m
        · exact .inl (end_ret ht hi (h.trans (endB m (.inr ⟨rfl, rfl⟩) c1 c2)))
        · have c3 : (t.getD i f0).r = (m : Int) := by omega
          rcases ih m m1 (by omega) with q | ⟨n, T', q, q1, q2, q3⟩
          · exact .inl (end_ret ht hi (h.trans (endC m (.inr ⟨rfl, rfl⟩) c3 (by omega) q)))
          · exact .inr ⟨n, .node (t.getD i f0).x T T', end_exit ht hi (by rw [h, endD m n (.inr ⟨rfl, rfl⟩) c3 (by omega) q]; exact end2 _), by omega, q2, .some hi hT (c3 ▸ q3)⟩

/-- well formed: empty, or the block of the first node is the whole -/
def Formed (t : List Lf) (T : BT) : Prop := t = [] ∧ T = .nil ∨ t.length ≤ 31 ∧ Sub t 0 0 T t.length

theorem formed_ex (z : Bool) (t : List Lf) (ht : t.length < 1099511627776) : L.pcall 91 [tw z t] = some (.bool false) ∨ L.pcall 91 [tw z t] = some (.bool true) ∧ ∃ T, Formed t T := by
  have e : (((t.length : Nat) : Int) ≤ 31) = (t.length ≤ 31) := propext ⟨fun h => by omega, fun h => by omega⟩
  by_cases h0 : t.length = 0
  · right
    refine ⟨?_, .nil, .inl ⟨List.length_eq_zero_iff.1 h0, rfl⟩⟩
    have h0' : (((t.length : Nat) : Int) = 0) = True := eq_true (by omega)
    rw [a91p, a91, pbodyA_eq]
    simp (maxSteps := 30000000) (disch := first | assumption | omega | (simp only [List.length_cons, List.length_nil, List.length_append, List.length_set, List.length_replicate, List.length_map, List.length_range, List.length_take, List.length_drop, List.all_cons, List.all_nil, AV.isCell, Bool.and_self, Bool.and_true, bs_length, is64_length, w64_length, ints_length, lfs_length] <;> omega) | rfl | decide) only [bodyA_eq, List.length_cons, List.length_nil, Nat.zero_add, Nat.reduceSub, pads, List.cons_append, List.nil_append, run_seq, run_region, runOps_cons, oper_none, ex_mov, opv, putK_to, List.set_cons_succ, List.set_cons_zero, opsK_some, runOps_nil, regK_some, seqK_normal, List.getD_cons_zero, ex_len, List.getD_cons_succ, lenA_sl, valK_some, ex_bin, bin_eql, h0', decide_true, oper_guard, guardK_bool, Bool.true_eq_false, ↓reduceIte, putA_to, guardK_tup, ex_pick, pickA_bool, run_ret, bodyK_ret, results_1, res_tmp, retvK_some, pbodyK_some, frzN, frz_bool]
  · have h0' : (((t.length : Nat) : Int) = 0) = False := eq_false (by omega)
    by_cases h1 : t.length ≤ 31
    · rcases end_ex (z := z) ht t.length 0 (by omega) (by omega) with q | ⟨n, T, q, q1, q2, q3⟩
      · left
        simp only [Int.natCast_zero] at q
        have h2 : ((-1 : Int) = (t.length : Nat)) = False := eq_false (by omega)
        rw [a91p, a91, pbodyA_eq]
        simp (maxSteps := 30000000) (disch := first | assumption | omega | (simp only [List.length_cons, List.length_nil, List.length_append, List.length_set, List.length_replicate, List.length_map, List.length_range, List.length_take, List.length_drop, List.all_cons, List.all_nil, AV.isCell, Bool.and_self, Bool.and_true, bs_length, is64_length, w64_length, ints_length, lfs_length] <;> omega) | rfl | decide) only [bodyA_eq, List.length_cons, List.length_nil, Nat.zero_add, Nat.reduceSub, pads, List.cons_append, List.nil_append, run_seq, run_region, runOps_cons, oper_none, ex_mov, opv, putK_to, List.set_cons_succ, List.set_cons_zero, opsK_some, runOps_nil, regK_some, seqK_normal, List.getD_cons_zero, ex_len, List.getD_cons_succ, lenA_sl, valK_some, ex_bin, bin_eql, h0', decide_false, oper_guard, guardK_bool, ↓reduceIte, bin_leq, e, h1, decide_true, ex_call, List.map_cons, List.map_nil, pcallA_eq, frzN, List.mapM_cons, frz_sl, frz_int, List.mapM_nil, Option.pure_def, Option.bind_eq_bind, Option.bind_some, argK_some, q, Int.reduceNeg, retK_some, scal, scal1, h2, ex_pick, pickA_bool, Bool.false_eq_true, run_ret, bodyK_ret, results_1, res_tmp, retvK_some, pbodyK_some, frz_bool]
      · simp only [Int.natCast_zero] at q
        by_cases c : n = t.length
        · right
          refine ⟨?_, T, .inr ⟨h1, c ▸ q3⟩⟩
          have h2 : (((n : Nat) : Int) = (t.length : Nat)) = True := eq_true (by omega)
          rw [a91p, a91, pbodyA_eq]
          simp (maxSteps := 30000000) (disch := first | assumption | omega | (simp only [List.length_cons, List.length_nil, List.length_append, List.length_set, List.length_replicate, List.length_map, List.length_range, List.length_take, List.length_drop, List.all_cons, List.all_nil, AV.isCell, Bool.and_self, Bool.and_true, bs_length, is64_length, w64_length, ints_length, lfs_length] <;> omega) | rfl | decide) only [bodyA_eq, List.length_cons, List.length_nil, Nat.zero_add, Nat.reduceSub, pads, List.cons_append, List.nil_append, run_seq, run_region, runOps_cons, oper_none, ex_mov, opv, putK_to, List.set_cons_succ, List.set_cons_zero, opsK_some, runOps_nil, regK_some, seqK_normal, List.getD_cons_zero, ex_len, List.getD_cons_succ, lenA_sl, valK_some, ex_bin, bin_eql, h0', decide_false, oper_guard, guardK_bool, ↓reduceIte, bin_leq, e, h1, decide_true, ex_call, List.map_cons, List.map_nil, pcallA_eq, frzN, List.mapM_cons, frz_sl, frz_int, List.mapM_nil, Option.pure_def, Option.bind_eq_bind, Option.bind_some, argK_some, q, retK_some, scal, scal1, h2, ex_pick, pickA_bool, Bool.false_eq_true, run_ret, bodyK_ret, results_1, res_tmp, retvK_some, pbodyK_some, frz_bool]
        · left
          have h2 : (((n : Nat) : Int) = (t.length : Nat)) = False := eq_false (by omega)
          rw [a91p, a91, pbodyA_eq]
          simp (maxSteps := 30000000) (disch := first | assumption | omega | (simp only [List.length_cons, List.length_nil, List.length_append, List.length_set, List.length_replicate, List.length_map, List.length_range, List.length_take, List.length_drop, List.all_cons, List.all_nil, AV.isCell, Bool.and_self, Bool.and_true, bs_length, is64_length, w64_length, ints_length, lfs_length] <;> omega) | rfl | decide) only [bodyA_eq, List.length_cons, List.length_nil, Nat.zero_add, Nat.reduceSub, pads, List.cons_append, List.nil_append, run_seq, run_region, runOps_cons, oper_none, ex_mov, opv, putK_to, List.set_cons_succ, List.set_cons_zero, opsK_some, runOps_nil, regK_some, seqK_normal, List.getD_cons_zero, ex_len, List.getD_cons_succ, lenA_sl, valK_some, ex_bin, bin_eql, h0', decide_false, oper_guard, guardK_bool, ↓reduceIte, bin_leq, e, h1, decide_true, ex_call, List.map_cons, List.map_nil, pcallA_eq, frzN, List.mapM_cons, frz_sl, frz_int, List.mapM_nil, Option.pure_def, Option.bind_eq_bind, Option.bind_some, argK_some, q, retK_some, scal, scal1, h2, ex_pick, pickA_bool, Bool.false_eq_true, run_ret, bodyK_ret, results_1, res_tmp, retvK_some, pbodyK_some, frz_bool]
    · left
      rw [a91p, a91, pbodyA_eq]
      simp (maxSteps := 30000000) (disch := first | assumption | omega | (simp only [List.length_cons, List.length_nil, List.length_append, List.length_set, List.length_replicate, List.length_map, List.length_range, List.length_take, List.length_drop, List.all_cons, List.all_nil, AV.isCell, Bool.and_self, Bool.and_true, bs_length, is64_length, w64_length, ints_length, lfs_length] <;> omega) | rfl | decide) only [bodyA_eq, List.length_cons, List.length_nil, Nat.zero_add, Nat.reduceSub, pads, List.cons_append, List.nil_append, run_seq, run_region, runOps_cons, oper_none, ex_mov, opv, putK_to, List.set_cons_succ, List.set_cons_zero, opsK_some, runOps_nil, regK_some, seqK_normal, List.getD_cons_zero, ex_len, List.getD_cons_succ, lenA_sl, valK_some, ex_bin, bin_eql, h0', decide_false, oper_guard, guardK_bool, ↓reduceIte, bin_leq, e, h1, Bool.false_eq_true, putA_to, ex_pick, pickA_bool, run_ret, bodyK_ret, results_1, res_tmp, retvK_some, pbodyK_some, frzN, frz_bool]
theorem shrN (x : Nat) {v b : Nat} (h : v ≤ b) : Int.fdiv (x : Int) (2 ^ min v b) = ((x >>> v : Nat) : Int) := by
  rw [Nat.min_eq_left h, Nat.shiftRight_eq_div_pow, show (2 : Int) ^ v = ((2 ^ v : Nat) : Int) from by rw [Int.natCast_pow]; rfl, Int.fdiv_eq_ediv_of_nonneg _ (Int.natCast_nonneg _)]
  rfl

theorem lab_loop {z : Bool} {t : List Lf} {v : Nat} {s4 : AV} (hv : v ≤ 3) (hl : t.length < 1099511627776) (hx : ∀ e ∈ t, e.x < 256) : ∀ d i H, i + d = t.length →
    ∃ (H' : Heap) (i' : AV), (∀ e ∈ t.drop i, e.x >>> v = 0) ∧ L.loop a99l0s a99l0 ⟨a99l0F (tw z t) (.int .i64 (v : Nat)) s4 (tw z t) (.int .i64 (t.length : Nat)) (.int .i64 (i : Nat)), H⟩ = some (.exit 1, ⟨a99l0F (tw z t) (.int .i64 (v : Nat)) s4 (tw z t) (.int .i64 (t.length : Nat)) (.int .i64 (t.length : Nat)), H'⟩)
      ∨ (¬ ∀ e ∈ t.drop i, e.x >>> v = 0) ∧ L.loop a99l0s a99l0 ⟨a99l0F (tw z t) (.int .i64 (v : Nat)) s4 (tw z t) (.int .i64 (t.length : Nat)) (.int .i64 (i : Nat)), H⟩ = some (.ret, ⟨a99l0F (tw z t) (.int .i64 (v : Nat)) (.int .i64 1) (tw z t) (.int .i64 (t.length : Nat)) i', H'⟩)
  | 0, i, H, h => by
    obtain rfl : i = t.length := by omega
    refine ⟨H, .any, .inl ⟨by rw [List.drop_length]; simp, ?_⟩⟩
    rw [a99l0n]
    simp (maxSteps := 30000000) (disch := first | assumption | omega | (simp only [List.length_cons, List.length_nil, List.length_append, List.length_set, List.length_replicate, List.length_map, List.length_range, List.length_take, List.length_drop, List.all_cons, List.all_nil, AV.isCell, Bool.and_self, Bool.and_true, bs_length, is64_length, w64_length, ints_length, lfs_length] <;> omega) | rfl | decide) only [a99l0b, run_seq, run_region, runOps_cons, oper_none, ex_bin, opv, List.getD_cons_succ, List.getD_cons_zero, bin_lss, Int.lt_irrefl, decide_false, valK_some, putK_to, List.set_cons_succ, List.set_cons_zero, opsK_some, runOps_nil, regK_some, seqK_normal, run_cond, condK_bool, Bool.false_eq_true, ↓reduceIte, run_exit, seqK_exit, loopK_exit, a99l0c]
  | d + 1, i, H, h => by
    have hlt : (i : Int) < (t.length : Nat) := by omega
    have hm := hx _ (getF_mem (by omega : i < t.length))
    have hs := shrN (t.getD i f0).x (show v ≤ IntKind.i64.bits from by show v ≤ 64; omega)
    rw [drop_getF (by omega : i < t.length)]
    by_cases c : (t.getD i f0).x >>> v = 0
    · have c' : ((((t.getD i f0).x >>> v : Nat) : Int) = 0) = True := eq_true (by omega)
      obtain ⟨H', i', ih⟩ := lab_loop (z := z) (s4 := s4) hv hl hx d (i + 1) (H ++ [.cells false false (encF (t.getD i f0))]) (by omega)
      simp only [encF] at ih
      refine ⟨H', i', ih.imp (fun q => ⟨?_, ?_⟩) (fun q => ⟨?_, ?_⟩)⟩
      · intro e he
        rcases List.mem_cons.1 he with rfl | he
        · exact c
        · exact q.1 e he
      · have q := q.2
        rw [a99l0n]
        simp (maxSteps := 30000000) (disch := first | assumption | omega | (simp only [List.length_cons, List.length_nil, List.length_append, List.length_set, List.length_replicate, List.length_map, List.length_range, List.length_take, List.length_drop, List.all_cons, List.all_nil, AV.isCell, Bool.and_self, Bool.and_true, bs_length, is64_length, w64_length, ints_length, lfs_length] <;> omega) | rfl | decide) only [a99l0b, run_seq, run_region, runOps_cons, oper_none, ex_bin, opv, List.getD_cons_succ, List.getD_cons_zero, bin_lss, hlt, decide_true, valK_some, putK_to, List.set_cons_succ, List.set_cons_zero, opsK_some, runOps_nil, regK_some, seqK_normal, run_cond, condK_bool, ↓reduceIte, run_skip, run_block, ex_iaddr, iaddrA_sl, Int.toNat_natCast, ex_load, rd_vptr, lfs_at, loadK_n, ex_box, AV.cells, List.all_cons, AV.isCell, List.all_nil, Bool.and_self, ex_store, List.length_cons, List.length_nil, Nat.zero_add, Nat.reduceAdd, wr_ptr, hget0, List.getElem?_cons_zero, wrK_cells, splice, List.take_zero, List.nil_append, List.drop_succ_cons, List.drop_nil, List.append_nil, hset0, storeK_some, putK_no, ex_faddr, faddrA_ptr, Nat.add_zero, rd_ptr, rdK_cells, List.drop_zero, List.take_succ_cons, loadK_1, ex_conv, convA_int, wr64, ex_mov, bin_shr, hs, bin_neq, c', Bool.not_true, Bool.false_eq_true, blockK_normal, bin_add, cadd1, loopK_normal, a99l0c, q]
      · intro f
        exact q.1 (fun e he => f e (List.mem_cons_of_mem _ he))
      · have q := q.2
        rw [a99l0n]
        simp (maxSteps := 30000000) (disch := first | assumption | omega | (simp only [List.length_cons, List.length_nil, List.length_append, List.length_set, List.length_replicate, List.length_map, List.length_range, List.length_take, List.length_drop, List.all_cons, List.all_nil, AV.isCell, Bool.and_self, Bool.and_true, bs_length, is64_length, w64_length, ints_length, lfs_length] <;> omega) | rfl | decide) only [a99l0b, run_seq, run_region, runOps_cons, oper_none, ex_bin, opv, List.getD_cons_succ, List.getD_cons_zero, bin_lss, hlt, decide_true, valK_some, putK_to, List.set_cons_succ, List.set_cons_zero, opsK_some, runOps_nil, regK_some, seqK_normal, run_cond, condK_bool, ↓reduceIte, run_skip, run_block, ex_iaddr, iaddrA_sl, Int.toNat_natCast, ex_load, rd_vptr, lfs_at, loadK_n, ex_box, AV.cells, List.all_cons, AV.isCell, List.all_nil, Bool.and_self, ex_store, List.length_cons, List.length_nil, Nat.zero_add, Nat.reduceAdd, wr_ptr, hget0, List.getElem?_cons_zero, wrK_cells, splice, List.take_zero, List.nil_append, List.drop_succ_cons, List.drop_nil, List.append_nil, hset0, storeK_some, putK_no, ex_faddr, faddrA_ptr, Nat.add_zero, rd_ptr, rdK_cells, List.drop_zero, List.take_succ_cons, loadK_1, ex_conv, convA_int, wr64, ex_mov, bin_shr, hs, bin_neq, c', Bool.not_true, Bool.false_eq_true, blockK_normal, bin_add, cadd1, loopK_normal, a99l0c, q]
    · have c' : ((((t.getD i f0).x >>> v : Nat) : Int) = 0) = False := eq_false (by omega)
      refine ⟨H ++ [.cells false false (encF (t.getD i f0))], .int .i64 (i : Nat), .inr ⟨fun f => c (f _ (List.mem_cons_self ..)), ?_⟩⟩
      rw [a99l0n]
      simp (maxSteps := 30000000) (disch := first | assumption | omega | (simp only [List.length_cons, List.length_nil, List.length_append, List.length_set, List.length_replicate, List.length_map, List.length_range, List.length_take, List.length_drop, List.all_cons, List.all_nil, AV.isCell, Bool.and_self, Bool.and_true, bs_length, is64_length, w64_length, ints_length, lfs_length] <;> omega) | rfl | decide) only [a99l0b, run_seq, run_region, runOps_cons, oper_none, ex_bin, opv, List.getD_cons_succ, List.getD_cons_zero, bin_lss, hlt, decide_true, valK_some, putK_to, List.set_cons_succ, List.set_cons_zero, opsK_some, runOps_nil, regK_some, seqK_normal, run_cond, condK_bool, ↓reduceIte, run_skip, run_block, ex_iaddr, iaddrA_sl, Int.toNat_natCast, ex_load, rd_vptr, lfs_at, loadK_n, ex_box, AV.cells, List.all_cons, AV.isCell, List.all_nil, Bool.and_self, ex_store, List.length_cons, List.length_nil, Nat.zero_add, Nat.reduceAdd, wr_ptr, hget0, List.getElem?_cons_zero, wrK_cells, splice, List.take_zero, List.nil_append, List.drop_succ_cons, List.drop_nil, List.append_nil, hset0, storeK_some, putK_no, ex_faddr, faddrA_ptr, Nat.add_zero, rd_ptr, rdK_cells, List.drop_zero, List.take_succ_cons, loadK_1, ex_conv, convA_int, wr64, ex_mov, bin_shr, hs, bin_neq, c', decide_false, Bool.not_false, run_ret, blockK_ret, seqK_ret, loopK_ret, a99l0c, encF]

theorem sub_cases {t : List Lf} {c : Int} {m n : Nat} {T : BT} (h : Sub t c m T n) : (c = -1 ∧ n = m ∧ T = .nil) ∨ (c = (m : Int) ∧ m < t.length) := by
  cases h with
  | none m => exact .inl ⟨rfl, rfl, rfl⟩
  | some hm _ _ => exact .inr ⟨rfl, hm⟩

theorem end_of {z : Bool} {t : List Lf} (ht : t.length < 1099511627776) {c : Int} {m n : Nat} {T : BT} (h : Sub t c m T n) : 0 ≤ c → L.pcall 114 [tw z t, .int .i64 (m : Nat)] = some (.int .i64 (n : Nat)) := by
  induction h with
  | none m => intro h; omega
  | @some m k n l r hm hl hr ihl ihr =>
    intro _
    have first : LP z t [] (t.getD m f0).l (t.getD m f0).r (.int .i64 0) ((m + 1 : Nat) : Int) 0 = LP z t [] (t.getD m f0).l (t.getD m f0).r (.int .i64 0) ((k : Nat) : Int) 1 := by
      rcases sub_cases hl with ⟨e1, e2, _⟩ | ⟨e1, e2⟩
      · subst e2
        exact endA _ (.inl ⟨rfl, rfl⟩) e1
      · exact endD (m + 1) k (.inl ⟨rfl, rfl⟩) e1 e2 (ihl (by omega))
    have second : LP z t [] (t.getD m f0).l (t.getD m f0).r (.int .i64 0) ((k : Nat) : Int) 1 = LP z t [] (t.getD m f0).l (t.getD m f0).r (.int .i64 0) ((n : Nat) : Int) 2 := by
      rcases sub_cases hr with ⟨e1, e2, _⟩ | ⟨e1, e2⟩
      · subst e2
        exact endA _ (.inr ⟨rfl, rfl⟩) e1
      · exact endD k n (.inr ⟨rfl, rfl⟩) e1 e2 (ihr (by omega))
    exact end_exit ht hm (by rw [first, second]; exact end2 _)

open Classical in
noncomputable def formedB (t : List Lf) : Bool := decide (∃ T, Formed t T)
open Classical in
theorem formedB_iff {t : List Lf} : formedB t = true ↔ ∃ T, Formed t T := by unfold formedB; rw [decide_eq_true_eq]

theorem formed_yes (z : Bool) {t : List Lf} {T : BT} (ht : t.length < 1099511627776) (h : Formed t T) : L.pcall 91 [tw z t] = some (.bool true) := by
  have e : (((t.length : Nat) : Int) ≤ 31) = (t.length ≤ 31) := propext ⟨fun h => by omega, fun h => by omega⟩
  rcases h with ⟨rfl, rfl⟩ | ⟨h31, hS⟩
  · have h0' : (((([] : List Lf).length : Nat) : Int) = 0) = True := eq_true (by simp)
    rw [a91p, a91, pbodyA_eq]
    simp (maxSteps := 30000000) (disch := first | assumption | omega | (simp only [List.length_cons, List.length_nil, List.length_append, List.length_set, List.length_replicate, List.length_map, List.length_range, List.length_take, List.length_drop, List.all_cons, List.all_nil, AV.isCell, Bool.and_self, Bool.and_true, bs_length, is64_length, w64_length, ints_length, lfs_length] <;> omega) | rfl | decide) only [bodyA_eq, List.length_cons, List.length_nil, Nat.zero_add, Nat.reduceSub, pads, List.cons_append, List.nil_append, run_seq, run_region, runOps_cons, oper_none, ex_mov, opv, putK_to, List.set_cons_succ, List.set_cons_zero, opsK_some, runOps_nil, regK_some, seqK_normal, List.getD_cons_zero, ex_len, List.getD_cons_succ, lenA_sl, castLit, valK_some, ex_bin, bin_eql, decide_true, oper_guard, guardK_bool, Bool.true_eq_false, ↓reduceIte, putA_to, guardK_tup, ex_pick, pickA_bool, run_ret, bodyK_ret, results_1, res_tmp, retvK_some, pbodyK_some, frzN, frz_bool]
  · have q := end_of (z := z) ht hS (by omega)
    have hpos : ¬ t.length = 0 := by
      intro h0
      rcases sub_cases hS with ⟨h, _⟩ | ⟨_, h⟩ <;> omega
    have h0' : (((t.length : Nat) : Int) = 0) = False := eq_false (by omega)
    have h2 : (((t.length : Nat) : Int) = (t.length : Nat)) = True := eq_true rfl
    simp only [Int.natCast_zero] at q
    rw [a91p, a91, pbodyA_eq]
    simp (maxSteps := 30000000) (disch := first | assumption | omega | (simp only [List.length_cons, List.length_nil, List.length_append, List.length_set, List.length_replicate, List.length_map, List.length_range, List.length_take, List.length_drop, List.all_cons, List.all_nil, AV.isCell, Bool.and_self, Bool.and_true, bs_length, is64_length, w64_length, ints_length, lfs_length] <;> omega) | rfl | decide) only [bodyA_eq, List.length_cons, List.length_nil, Nat.zero_add, Nat.reduceSub, pads, List.cons_append, List.nil_append, run_seq, run_region, runOps_cons, oper_none, ex_mov, opv, putK_to, List.set_cons_succ, List.set_cons_zero, opsK_some, runOps_nil, regK_some, seqK_normal, List.getD_cons_zero, ex_len, List.getD_cons_succ, lenA_sl, valK_some, ex_bin, bin_eql, h0', decide_false, oper_guard, guardK_bool, ↓reduceIte, bin_leq, e, h31, decide_true, ex_call, List.map_cons, List.map_nil, pcallA_eq, frzN, List.mapM_cons, frz_sl, frz_int, List.mapM_nil, Option.pure_def, Option.bind_eq_bind, Option.bind_some, argK_some, q, retK_some, scal, scal1, ex_pick, pickA_bool, Bool.false_eq_true, run_ret, bodyK_ret, results_1, res_tmp, retvK_some, pbodyK_some, frz_bool]

theorem formed_eq (z : Bool) (t : List Lf) (ht : t.length < 1099511627776) : L.pcall 91 [tw z t] = some (.bool (formedB t)) := by
  cases h : formedB t with
  | true =>
    obtain ⟨T, hT⟩ := formedB_iff.1 h
    exact formed_yes z ht hT
  | false =>
    rcases formed_ex z t ht with q | ⟨_, q⟩
    · exact q
    · rw [formedB_iff.2 q] at h; cases h

def labOk (t : List Lf) (v : Nat) : Bool := t.all fun e => decide (e.x >>> v = 0)
theorem labOk_iff {t : List Lf} {v : Nat} : labOk t v = true ↔ ∀ e ∈ t, e.x >>> v = 0 := by simp [labOk]
noncomputable def tchkE (t : List Lf) (v : Nat) : Int := if 31 < t.length then 4 else if labOk t v = true then (if formedB t = true then 0 else 2) else 1

theorem tcheck_eq (z : Bool) (t : List Lf) (v : Nat) (hv : v ≤ 3) (hl : t.length < 1099511627776) (hx : ∀ e ∈ t, e.x < 256) :
    L.pcall 99 [tw z t, .int .i64 (v : Nat)] = some (.int .i64 (tchkE t v)) := by
  have hv3 : ¬ ((3 : Int) < (v : Nat)) := by omega
  have e31 : ((31 : Int) < (t.length : Nat)) = (31 < t.length) := propext ⟨fun h => by omega, fun h => by omega⟩
  have q := formed_eq z t hl
  unfold tchkE
  by_cases c : 31 < t.length
  · rw [if_pos c, a99p, a99, pbodyA_eq]
    simp (maxSteps := 30000000) (disch := first | assumption | omega | (simp only [List.length_cons, List.length_nil, List.length_append, List.length_set, List.length_replicate, List.length_map, List.length_range, List.length_take, List.length_drop, List.all_cons, List.all_nil, AV.isCell, Bool.and_self, Bool.and_true, bs_length, is64_length, w64_length, ints_length, lfs_length] <;> omega) | rfl | decide) only [bodyA_eq, List.length_cons, List.length_nil, Nat.zero_add, Nat.reduceAdd, Nat.reduceSub, pads, List.cons_append, List.nil_append, run_seq, run_region, runOps_cons, oper_none, ex_mov, opv, putK_to, List.set_cons_succ, List.set_cons_zero, opsK_some, runOps_nil, regK_some, seqK_normal, run_block, List.getD_cons_succ, List.getD_cons_zero, ex_bin, bin_lss, ltc0, decide_false, valK_some, oper_guard, guardK_bool, ↓reduceIte, bin_gtr, hv3, ex_pick, pickA_bool, Bool.false_eq_true, run_cond, condK_bool, ex_len, lenA_sl, e31, c, decide_true, run_ret, blockK_ret, seqK_ret, bodyK_ret, results_1, res_tmp, retvK_some, pbodyK_some, frzN, frz_int]
  · rw [if_neg c]
    obtain ⟨H', i', g⟩ := lab_loop (z := z) (s4 := .int .i64 0) hv hl hx t.length 0 [] (by omega)
    simp only [Int.natCast_zero, List.drop_zero] at g
    rcases g with ⟨g1, g⟩ | ⟨g1, g⟩
    · rw [if_pos (labOk_iff.2 g1)]
      cases hf : formedB t with
      | false =>
        rw [hf] at q
        rw [if_neg (by simp), a99p, a99, pbodyA_eq]
        simp (maxSteps := 30000000) (disch := first | assumption | omega | (simp only [List.length_cons, List.length_nil, List.length_append, List.length_set, List.length_replicate, List.length_map, List.length_range, List.length_take, List.length_drop, List.all_cons, List.all_nil, AV.isCell, Bool.and_self, Bool.and_true, bs_length, is64_length, w64_length, ints_length, lfs_length] <;> omega) | rfl | decide) only [bodyA_eq, List.length_cons, List.length_nil, Nat.zero_add, Nat.reduceAdd, Nat.reduceSub, pads, List.cons_append, List.nil_append, run_seq, run_region, runOps_cons, oper_none, ex_mov, opv, putK_to, List.set_cons_succ, List.set_cons_zero, opsK_some, runOps_nil, regK_some, seqK_normal, run_block, List.getD_cons_succ, List.getD_cons_zero, ex_bin, bin_lss, ltc0, decide_false, valK_some, oper_guard, guardK_bool, ↓reduceIte, bin_gtr, hv3, ex_pick, pickA_bool, Bool.false_eq_true, run_cond, condK_bool, ex_len, lenA_sl, e31, c, run_skip, blockK_normal, run_loop, a99l0c, g, blockK_exit, ex_call, List.map_cons, List.map_nil, pcallA_eq, frzN, List.mapM_cons, frz_sl, List.mapM_nil, Option.pure_def, Option.bind_eq_bind, Option.bind_some, argK_some, q, retK_some, scal, scal1, ex_un, un_not, Bool.not_false, run_ret, seqK_ret, bodyK_ret, results_1, res_tmp, retvK_some, pbodyK_some, frz_int]
      | true =>
        rw [hf] at q
        rw [if_pos rfl, a99p, a99, pbodyA_eq]
        simp (maxSteps := 30000000) (disch := first | assumption | omega | (simp only [List.length_cons, List.length_nil, List.length_append, List.length_set, List.length_replicate, List.length_map, List.length_range, List.length_take, List.length_drop, List.all_cons, List.all_nil, AV.isCell, Bool.and_self, Bool.and_true, bs_length, is64_length, w64_length, ints_length, lfs_length] <;> omega) | rfl | decide) only [bodyA_eq, List.length_cons, List.length_nil, Nat.zero_add, Nat.reduceAdd, Nat.reduceSub, pads, List.cons_append, List.nil_append, run_seq, run_region, runOps_cons, oper_none, ex_mov, opv, putK_to, List.set_cons_succ, List.set_cons_zero, opsK_some, runOps_nil, regK_some, seqK_normal, run_block, List.getD_cons_succ, List.getD_cons_zero, ex_bin, bin_lss, ltc0, decide_false, valK_some, oper_guard, guardK_bool, ↓reduceIte, bin_gtr, hv3, ex_pick, pickA_bool, Bool.false_eq_true, run_cond, condK_bool, ex_len, lenA_sl, e31, c, run_skip, blockK_normal, run_loop, a99l0c, g, blockK_exit, ex_call, List.map_cons, List.map_nil, pcallA_eq, frzN, List.mapM_cons, frz_sl, List.mapM_nil, Option.pure_def, Option.bind_eq_bind, Option.bind_some, argK_some, q, retK_some, scal, scal1, ex_un, un_not, Bool.not_true, run_ret, bodyK_ret, results_1, res_tmp, retvK_some, pbodyK_some, frz_int]
    · rw [if_neg (fun h => g1 (labOk_iff.1 h)), a99p, a99, pbodyA_eq]
      simp (maxSteps := 30000000) (disch := first | assumption | omega | (simp only [List.length_cons, List.length_nil, List.length_append, List.length_set, List.length_replicate, List.length_map, List.length_range, List.length_take, List.length_drop, List.all_cons, List.all_nil, AV.isCell, Bool.and_self, Bool.and_true, bs_length, is64_length, w64_length, ints_length, lfs_length] <;> omega) | rfl | decide) only [bodyA_eq, List.length_cons, List.length_nil, Nat.zero_add, Nat.reduceAdd, Nat.reduceSub, pads, List.cons_append, List.nil_append, run_seq, run_region, runOps_cons, oper_none, ex_mov, opv, putK_to, List.set_cons_succ, List.set_cons_zero, opsK_some, runOps_nil, regK_some, seqK_normal, run_block, List.getD_cons_succ, List.getD_cons_zero, ex_bin, bin_lss, ltc0, decide_false, valK_some, oper_guard, guardK_bool, ↓reduceIte, bin_gtr, hv3, ex_pick, pickA_bool, Bool.false_eq_true, run_cond, condK_bool, ex_len, lenA_sl, e31, c, run_skip, blockK_normal, run_loop, a99l0c, g, blockK_ret, seqK_ret, bodyK_ret, results_1, res_tmp, retvK_some, pbodyK_some, frzN, frz_int]

end Go.Abs.Det

/- Trees as lists of nodes. -/
namespace Go.Abs.Det
open Go Go.Abs
set_option linter.unusedSimpArgs false
set_option linter.unusedVariables false

def BT.size : BT → Nat
  | .nil => 0
  | .node _ l r => 1 + (l.size + r.size)
def rootI (m : Nat) : BT → Int
  | .nil => -1
  | .node _ _ _ => (m : Nat)
/-- the block of a tree whose first node lies at m -/
def encT (m : Nat) : BT → List Lf
  | .nil => []
  | .node x l r => ⟨x, rootI (m + 1) l, rootI (m + 1 + l.size) r⟩ :: (encT (m + 1) l ++ encT (m + 1 + l.size) r)
theorem encT_length : ∀ (T : BT) (m : Nat), (encT m T).length = T.size
  | .nil, m => rfl
  | .node x l r, m => by
    rw [encT, List.length_cons, List.length_append, encT_length l, encT_length r, BT.size]; omega

theorem sub_enc {t : List Lf} {c : Int} {m n : Nat} {T : BT} (h : Sub t c m T n) : c = rootI m T ∧ n = m + T.size ∧ (t.drop m).take T.size = encT m T := by
  induction h with
  | none m => exact ⟨rfl, rfl, by simp [BT.size, encT]⟩
  | @some m k n l r hm hl hr ihl ihr =>
    obtain ⟨l1, rfl, l3⟩ := ihl
    obtain ⟨r1, rfl, r3⟩ := ihr
    refine ⟨rfl, by rw [BT.size]; omega, ?_⟩
    rw [drop_getF hm, BT.size, show 1 + (l.size + r.size) = (l.size + r.size) + 1 by omega, List.take_succ_cons, List.take_add, List.drop_drop, l3, r3, encT, ← l1, ← r1]

theorem formed_enc {t : List Lf} {T : BT} (h : Formed t T) : t = encT 0 T ∧ T.size ≤ 31 := by
  rcases h with ⟨rfl, rfl⟩ | ⟨h1, h2⟩
  · exact ⟨rfl, by simp [BT.size]⟩
  · obtain ⟨-, e, h3⟩ := sub_enc h2
    rw [List.drop_zero, List.take_of_length_le (by omega)] at h3
    exact ⟨h3, by omega⟩

theorem enc_sub : ∀ (T : BT) (A B : List Lf), Sub (A ++ encT A.length T ++ B) (rootI A.length T) A.length T (A.length + T.size)
  | .nil, A, B => .none _
  | .node x l r, A, B => by
    have hl := enc_sub l (A ++ [⟨x, rootI (A.length + 1) l, rootI (A.length + 1 + l.size) r⟩]) (encT (A.length + 1 + l.size) r ++ B)
    have hr := enc_sub r (A ++ ⟨x, rootI (A.length + 1) l, rootI (A.length + 1 + l.size) r⟩ :: encT (A.length + 1) l) B
    have e1 : (A ++ [(⟨x, rootI (A.length + 1) l, rootI (A.length + 1 + l.size) r⟩ : Lf)]).length = A.length + 1 := by simp
    have e2 : (A ++ (⟨x, rootI (A.length + 1) l, rootI (A.length + 1 + l.size) r⟩ : Lf) :: encT (A.length + 1) l).length = A.length + 1 + l.size := by
      rw [List.length_append, List.length_cons, encT_length]; omega
    rw [e1] at hl
    rw [e2] at hr
    have el : A ++ encT A.length (.node x l r) ++ B = A ++ [⟨x, rootI (A.length + 1) l, rootI (A.length + 1 + l.size) r⟩] ++ encT (A.length + 1) l ++ (encT (A.length + 1 + l.size) r ++ B) := by
      simp [encT]
    have er : A ++ encT A.length (.node x l r) ++ B = A ++ ⟨x, rootI (A.length + 1) l, rootI (A.length + 1 + l.size) r⟩ :: encT (A.length + 1) l ++ encT (A.length + 1 + l.size) r ++ B := by
      simp [encT]
    rw [← el] at hl
    rw [← er] at hr
    have hg : (A ++ encT A.length (.node x l r) ++ B).getD A.length f0 = ⟨x, rootI (A.length + 1) l, rootI (A.length + 1 + l.size) r⟩ := by
      simp [encT, List.getD]
    have hm : A.length < (A ++ encT A.length (.node x l r) ++ B).length := by
      simp [encT]
    have := Sub.some (t := A ++ encT A.length (.node x l r) ++ B) hm (by rw [hg]; exact hl) (by rw [hg]; exact hr)
    rw [hg] at this
    rw [BT.size, show A.length + (1 + (l.size + r.size)) = A.length + 1 + l.size + r.size by omega]
    exact this

theorem enc_formed {T : BT} (h : T.size ≤ 31) : Formed (encT 0 T) T := by
  cases T with
  | nil => exact .inl ⟨rfl, rfl⟩
  | node x l r =>
    have := enc_sub (.node x l r) [] []
    rw [List.append_nil, List.nil_append] at this
    exact .inr ⟨by rw [encT_length]; exact h, by rw [encT_length]; simpa [rootI] using this⟩

theorem sub_uniq {t : List Lf} {c : Int} {m n : Nat} {T : BT} (h : Sub t c m T n) : ∀ {T' : BT} {n' : Nat}, Sub t c m T' n' → T = T' ∧ n = n' := by
  induction h with
  | none m =>
    intro T' n' h'
    rcases sub_cases h' with ⟨_, rfl, rfl⟩ | ⟨h, _⟩
    · exact ⟨rfl, rfl⟩
    · omega
  | @some m k n l r hm hl hr ihl ihr =>
    intro T' n' h'
    generalize hc : (m : Int) = c at h'
    cases h' with
    | none m => omega
    | some hm' hl' hr' =>
      obtain ⟨rfl, rfl⟩ := ihl hl'
      obtain ⟨rfl, rfl⟩ := ihr hr'
      exact ⟨rfl, rfl⟩

theorem formed_uniq {t : List Lf} {T T' : BT} (h : Formed t T) (h' : Formed t T') : T = T' := by
  rcases h with ⟨rfl, rfl⟩ | ⟨_, h⟩
  · rcases h' with ⟨_, rfl⟩ | ⟨_, h'⟩
    · rfl
    · rcases sub_cases h' with ⟨_, _⟩ | ⟨_, h⟩
      · omega
      · simp at h
  · rcases h' with ⟨rfl, rfl⟩ | ⟨_, h'⟩
    · rcases sub_cases h with ⟨_, _⟩ | ⟨_, h⟩
      · omega
      · simp at h
    · exact (sub_uniq h h').1

/-! moving a block -/
def mvI (d i : Int) : Int := if i = -1 then -1 else i + d
def mvL (d : Int) (e : Lf) : Lf := ⟨e.x, mvI d e.l, mvI d e.r⟩
theorem mv_root {m m' : Nat} {d : Int} (h : (m : Int) + d = m') : ∀ T : BT, mvI d (rootI m T) = rootI m' T
  | .nil => rfl
  | .node _ _ _ => by
    have : ¬ ((m : Int) = -1) := by omega
    simp only [rootI, mvI, if_neg this]
    exact h
theorem mv_enc {d : Int} : ∀ (T : BT) (m m' : Nat), (m : Int) + d = m' → (encT m T).map (mvL d) = encT m' T
  | .nil, m, m', h => rfl
  | .node x l r, m, m', h => by
    rw [encT, encT, List.map_cons, List.map_append, mv_enc l (m + 1) (m' + 1) (by omega), mv_enc r (m + 1 + l.size) (m' + 1 + l.size) (by omega)]
    congr 1
    simp only [mvL]
    rw [mv_root (m := m + 1) (m' := m' + 1) (by omega), mv_root (m := m + 1 + l.size) (m' := m' + 1 + l.size) (by omega)]

/-- the indices of a block are small -/
theorem enc_small : ∀ (T : BT) (m : Nat), ∀ e ∈ encT m T, (-1 ≤ e.l ∧ e.l ≤ (m + T.size : Nat)) ∧ (-1 ≤ e.r ∧ e.r ≤ (m + T.size : Nat))
  | .nil, m, e, he => by simp [encT] at he
  | .node x l r, m, e, he => by
    have g : ∀ (T : BT) (k : Nat), -1 ≤ rootI k T ∧ (rootI k T ≤ (k : Nat)) := fun T k => by cases T <;> simp [rootI] <;> omega
    rw [encT, List.mem_cons, List.mem_append] at he
    rcases he with rfl | he | he
    · have g1 := g l (m + 1)
      have g2 := g r (m + 1 + l.size)
      have hl : l = .nil ∨ 0 < l.size := by cases l <;> simp [BT.size]; omega
      have hr : r = .nil ∨ 0 < r.size := by cases r <;> simp [BT.size]; omega
      simp only [BT.size]
      refine ⟨⟨g1.1, ?_⟩, ⟨g2.1, ?_⟩⟩
      · rcases hl with rfl | hl
        · simp only [rootI]; omega
        · omega
      · rcases hr with rfl | hr
        · simp only [rootI]; omega
        · omega
    · have := enc_small l (m + 1) e he
      simp only [BT.size]
      omega
    · have := enc_small r (m + 1 + l.size) e he
      simp only [BT.size]
      omega

def BT.labs (p : Nat → Prop) : BT → Prop
  | .nil => True
  | .node x l r => p x ∧ l.labs p ∧ r.labs p
theorem enc_labs {p : Nat → Prop} : ∀ (T : BT) (m : Nat), (∀ e ∈ encT m T, p e.x) ↔ T.labs p
  | .nil, m => by simp [encT, BT.labs]
  | .node x l r, m => by
    have hl := enc_labs (p := p) l (m + 1)
    have hr := enc_labs (p := p) r (m + 1 + l.size)
    rw [BT.labs, ← hl, ← hr, encT]
    simp only [List.mem_cons, List.mem_append]
    constructor
    · intro h
      exact ⟨h _ (.inl rfl), fun e he => h e (.inr (.inl he)), fun e he => h e (.inr (.inr he))⟩
    · rintro ⟨h1, h2, h3⟩ e (rfl | he | he)
      · exact h1
      · exact h2 e he
      · exact h3 e he
theorem BT.labs_iff {p q : Nat → Prop} (h : ∀ x, p x ↔ q x) : ∀ T : BT, T.labs p ↔ T.labs q
  | .nil => Iff.rfl
  | .node x l r => by rw [BT.labs, BT.labs, h x, BT.labs_iff h l, BT.labs_iff h r]

/-! mirrors -/
def BT.mir : BT → BT
  | .nil => .nil
  | .node x l r => .node x r.mir l.mir
theorem BT.mir_size : ∀ T : BT, T.mir.size = T.size
  | .nil => rfl
  | .node x l r => by rw [BT.mir, BT.size, BT.size, mir_size l, mir_size r]; omega
theorem BT.mir_labs {p : Nat → Prop} : ∀ T : BT, T.mir.labs p ↔ T.labs p
  | .nil => Iff.rfl
  | .node x l r => by
    rw [BT.mir, BT.labs, BT.labs, mir_labs l, mir_labs r]
    exact ⟨fun ⟨a, b, c⟩ => ⟨a, c, b⟩, fun ⟨a, b, c⟩ => ⟨a, c, b⟩⟩
end Go.Abs.Det

/- sub: a row. -/
namespace Go.Abs.Det
open Go Go.Abs
set_option linter.unusedSimpArgs false
set_option linter.unusedVariables false

/-- rows that come in -/
structure Rw where
  z : Bool
  l : List Int
structure Rws where
  z : Bool
  l : List Rw
structure Dfa where
  vars : Int
  empty : Int
  z : Bool
  next : List Rws
  zf : Bool
  fin : List Bool
def r0 : Rw := ⟨true, []⟩
def rr0 : Rws := ⟨true, []⟩
def rwV (r : Rw) : AV := .sl r.z r.l.length (ints r.l)
def rwsV (r : Rws) : AV := .sl r.z r.l.length (r.l.map rwV)
def bools (l : List Bool) : List AV := l.map AV.bool
def Dfa.cells (d : Dfa) : List AV := [.int .i64 d.vars, .int .i64 d.empty, .sl d.z d.next.length (d.next.map rwsV), .sl d.zf d.fin.length (bools d.fin)]
def Dfa.av (d : Dfa) : AV := .agg d.cells

theorem map_at1 {α : Type} (f : α → AV) (a : α) {l : List α} {i : Nat} (h : i < l.length) : List.take 1 (List.drop i (l.map f)) = [f (l.getD i a)] := by
  rw [List.drop_eq_getElem_cons (by simpa using h)]
  simp [List.getD, List.getElem?_eq_getElem h]
theorem rw_at {l : List Rw} {i : Nat} (h : i < l.length) : List.take 1 (List.drop i (l.map rwV)) = [rwV (l.getD i r0)] := map_at1 _ _ h
theorem rws_at {l : List Rws} {i : Nat} (h : i < l.length) : List.take 1 (List.drop i (l.map rwsV)) = [rwsV (l.getD i rr0)] := map_at1 _ _ h
theorem bool_at {l : List Bool} {i : Nat} (h : i < l.length) : List.take 1 (List.drop i (bools l)) = [AV.bool (l.getD i false)] := map_at1 _ _ h
theorem bools_len (l : List Bool) : (bools l).length = l.length := List.length_map ..
theorem repz_ints (n : Nat) : repz [AV.int .i64 0] n = ints (List.replicate n 0) := by
  induction n with
  | zero => rfl
  | succ n ih => simp [repz, ih, ints, List.replicate_succ]

def nrm (x n : Int) : Int := (x.tmod n + n).tmod n
theorem tmod_bd (x : Int) {n : Int} (h : 0 < n) : -n < x.tmod n ∧ x.tmod n < n := by
  have h1 := Int.tmod_lt_of_pos x h
  have h2 : -n < x.tmod n := by
    have := Int.lt_tmod_of_pos x h
    exact this
  exact ⟨h2, h1⟩
theorem nrm_bd (x : Int) {n : Int} (h : 0 < n) : 0 ≤ nrm x n ∧ nrm x n < n := by
  have := tmod_bd x h
  exact ⟨Int.tmod_nonneg _ (by omega), (tmod_bd _ h).2⟩

/-- a cell of the part -/
def cellS (d : Dfa) (n l r x : Nat) : Int :=
  if r < (d.next.getD l rr0).l.length ∧ x < ((d.next.getD l rr0).l.getD r r0).l.length then nrm (((d.next.getD l rr0).l.getD r r0).l.getD x 0) n else 0

section
variable {d : Dfa} {n m l r k : Nat} {s4 s5 s7 : AV}
theorem sub_row (hn : 0 < n) (hn8 : n ≤ 8) (hm : m ≤ 8) (hl : l < d.next.length) (hk : 2 < k) : ∀ e x G, x + e = m → G[0]? = some (.cells false false d.cells) →
    G[k]? = some (.cells false false (ints ((List.range x).map (fun x => cellS d n l r x) ++ List.replicate e 0))) →
    L.loop a42l0s a42l0 ⟨a42l0F (.int .i64 n) (.ptr 0 0) s4 s5 (.int .i64 l) s7 (.int .i64 r) (.own false k 0 m 1) (.int .i64 (x : Nat)), G⟩ =
      some (.exit 4, ⟨a42l0F (.int .i64 n) (.ptr 0 0) s4 s5 (.int .i64 l) s7 (.int .i64 r) (.own false k 0 m 1) (.int .i64 (m : Nat)), G.set k (.cells false false (ints ((List.range m).map fun x => cellS d n l r x)))⟩) := by
  intro e
  induction e with
  | zero =>
    intro x G h h0 hG
    obtain rfl : x = m := by omega
    rw [List.replicate_zero, List.append_nil] at hG
    have e : G.set k (.cells false false (ints ((List.range x).map fun x => cellS d n l r x))) = G := by
      obtain ⟨h1, h2⟩ := List.getElem?_eq_some_iff.1 hG
      rw [← h2, List.set_getElem_self]
    rw [e, a42l0n]
    simp (maxSteps := 30000000) (disch := first | assumption | omega | (simp only [List.length_cons, List.length_nil, List.length_append, List.length_set, List.length_replicate, List.length_map, List.length_range, List.length_take, List.length_drop, List.all_cons, List.all_nil, AV.isCell, Bool.and_self, Bool.and_true, bs_length, is64_length, w64_length, ints_length, ints_length] <;> omega) | rfl | decide) only [a42l0b, run_seq, run_region, runOps_cons, oper_none, ex_mov, opv, List.getD_cons_succ, List.getD_cons_zero, putK_to, List.set_cons_succ, List.set_cons_zero, opsK_some, ex_len, lenA_own, valK_some, ex_bin, bin_lss, Int.lt_irrefl, decide_false, runOps_nil, regK_some, seqK_normal, run_cond, condK_bool, Bool.false_eq_true, ↓reduceIte, run_exit, seqK_exit, loopK_exit, a42l0c]
  | succ e ih =>
    intro x G h h0 hG
    have hkl := (List.getElem?_eq_some_iff.1 hG).1
    have hlt : (x : Int) < (m : Nat) := by omega
    have hn0 : ((n : Nat) : Int) ≠ 0 := by omega
    have hcs : (List.range (x + 1)).map (fun x => cellS d n l r x) = (List.range x).map (fun x => cellS d n l r x) ++ [cellS d n l r x] := by
      rw [List.range_succ, List.map_append]; rfl
    have hlen : ((List.range x).map (fun x => cellS d n l r x) ++ List.replicate (e + 1) 0).length = m := by simp; omega
    have hset : ∀ y : Int, ((List.range x).map (fun x => cellS d n l r x) ++ List.replicate (e + 1) 0).set x y = (List.range x).map (fun x => cellS d n l r x) ++ y :: List.replicate e 0 := fun y => by
      rw [List.set_append_right _ _ (by simp)]
      simp [List.replicate_succ]
    by_cases c : r < (d.next.getD l rr0).l.length ∧ x < ((d.next.getD l rr0).l.getD r r0).l.length
    · have ih' := ih (x + 1) (G.set k (.cells false false (ints ((List.range (x + 1)).map (fun x => cellS d n l r x) ++ List.replicate e 0)))) (by omega)
        (by rw [List.getElem?_set_ne (by omega)]; exact h0) (List.getElem?_set_self hkl)
      rw [List.set_set, hcs, List.append_assoc, List.cons_append, List.nil_append] at ih'
      have hc : cellS d n l r x = nrm (((d.next.getD l rr0).l.getD r r0).l.getD x 0) n := if_pos c
      have c1 : (r : Int) < ((d.next.getD l rr0).l.length : Nat) := by omega
      have c2 : (x : Int) < (((d.next.getD l rr0).l.getD r r0).l.length : Nat) := by omega
      have c3 := c.1
      have c4 := c.2
      have hb := tmod_bd (((d.next.getD l rr0).l.getD r r0).l.getD x 0) (n := (n : Int)) (by omega)
      rw [hc] at ih'
      unfold nrm at ih'
      generalize hq : (((d.next.getD l rr0).l.getD r r0).l.getD x 0).tmod (n : Int) = q at ih' hb
      have hs := hset ((q + n).tmod n)
      generalize (List.range x).map (fun x => cellS d n l r x) ++ List.replicate (e + 1) 0 = cur at *
      unfold Dfa.cells at h0
      rw [a42l0n]
      simp (maxSteps := 30000000) (disch := first | assumption | omega | (simp only [List.length_cons, List.length_nil, List.length_append, List.length_set, List.length_replicate, List.length_map, List.length_range, List.length_take, List.length_drop, List.all_cons, List.all_nil, AV.isCell, Bool.and_self, Bool.and_true, bs_length, is64_length, w64_length, ints_length, ints_length] <;> omega) | rfl | decide) only [a42l0b, run_seq, run_region, runOps_cons, oper_none, ex_mov, opv, List.getD_cons_succ, List.getD_cons_zero, putK_to, List.set_cons_succ, List.set_cons_zero, opsK_some, ex_len, lenA_own, valK_some, ex_bin, bin_lss, hlt, decide_true, runOps_nil, regK_some, seqK_normal, run_cond, condK_bool, ↓reduceIte, run_skip, run_block, ex_faddr, faddrA_ptr, Nat.zero_add, ex_load, rd_ptr, h0, rdK_cells, List.drop_succ_cons, List.drop_zero, List.take_succ_cons, List.take_zero, loadK_1, ex_iaddr, iaddrA_sl, Int.toNat_natCast, Nat.mul_one, rd_vptr, rws_at, rwsV, lenA_sl, c1, oper_guard, guardK_bool, rw_at, rwV, c2, ex_pick, pickA_bool, ints_drop, ints_take, ints_at0, getD_dropI, Nat.add_zero, bin_rem, hq, bin_add, wr64, iaddrA_own, ex_store, AV.cells, List.length_cons, List.length_nil, wr_ptr, hG, wrK_cells, splice, List.append_assoc, List.cons_append, List.nil_append, ints_put1, hset, storeK_some, putK_no, blockK_normal, cadd1, loopK_normal, a42l0c, ih']
    · have hc : cellS d n l r x = 0 := if_neg c
      have ih' := ih (x + 1) G (by omega) h0 (by rw [hcs, hc, List.append_assoc]; exact hG)
      unfold Dfa.cells at h0
      by_cases c3 : r < (d.next.getD l rr0).l.length
      · have c1 : (r : Int) < ((d.next.getD l rr0).l.length : Nat) := by omega
        have c2 : ¬ (x : Int) < (((d.next.getD l rr0).l.getD r r0).l.length : Nat) := by omega
        rw [a42l0n]
        simp (maxSteps := 30000000) (disch := first | assumption | omega | (simp only [List.length_cons, List.length_nil, List.length_append, List.length_set, List.length_replicate, List.length_map, List.length_range, List.length_take, List.length_drop, List.all_cons, List.all_nil, AV.isCell, Bool.and_self, Bool.and_true, bs_length, is64_length, w64_length, ints_length, ints_length] <;> omega) | rfl | decide) only [a42l0b, run_seq, run_region, runOps_cons, oper_none, ex_mov, opv, List.getD_cons_succ, List.getD_cons_zero, putK_to, List.set_cons_succ, List.set_cons_zero, opsK_some, ex_len, lenA_own, valK_some, ex_bin, bin_lss, hlt, decide_true, runOps_nil, regK_some, seqK_normal, run_cond, condK_bool, ↓reduceIte, run_skip, run_block, ex_faddr, faddrA_ptr, Nat.zero_add, ex_load, rd_ptr, h0, rdK_cells, List.drop_succ_cons, List.drop_zero, List.take_succ_cons, List.take_zero, loadK_1, ex_iaddr, iaddrA_sl, Int.toNat_natCast, Nat.mul_one, rd_vptr, rws_at, rwsV, lenA_sl, c1, oper_guard, guardK_bool, rw_at, rwV, c2, decide_false, ex_pick, pickA_bool, Bool.false_eq_true, blockK_normal, bin_add, cadd1, wr64, loopK_normal, a42l0c, ih']
      · have c1 : ¬ (r : Int) < ((d.next.getD l rr0).l.length : Nat) := by omega
        rw [a42l0n]
        simp (maxSteps := 30000000) (disch := first | assumption | omega | (simp only [List.length_cons, List.length_nil, List.length_append, List.length_set, List.length_replicate, List.length_map, List.length_range, List.length_take, List.length_drop, List.all_cons, List.all_nil, AV.isCell, Bool.and_self, Bool.and_true, bs_length, is64_length, w64_length, ints_length, ints_length] <;> omega) | rfl | decide) only [a42l0b, run_seq, run_region, runOps_cons, oper_none, ex_mov, opv, List.getD_cons_succ, List.getD_cons_zero, putK_to, List.set_cons_succ, List.set_cons_zero, opsK_some, ex_len, lenA_own, valK_some, ex_bin, bin_lss, hlt, decide_true, runOps_nil, regK_some, seqK_normal, run_cond, condK_bool, ↓reduceIte, run_skip, run_block, ex_faddr, faddrA_ptr, Nat.zero_add, ex_load, rd_ptr, h0, rdK_cells, List.drop_succ_cons, List.drop_zero, List.take_succ_cons, List.take_zero, loadK_1, ex_iaddr, iaddrA_sl, Int.toNat_natCast, Nat.mul_one, rd_vptr, rws_at, rwsV, lenA_sl, c1, decide_false, oper_guard, guardK_bool, Bool.false_eq_true, putA_to, ex_pick, pickA_bool, blockK_normal, bin_add, cadd1, wr64, loopK_normal, a42l0c, ih']
end
end Go.Abs.Det

/- sub: the rows of a state; all states; sub. -/
namespace Go.Abs.Det
open Go Go.Abs
set_option linter.unusedSimpArgs false
set_option linter.unusedVariables false

def rowT (l : List Int) : AV := .sl false l.length (ints l)
def rowS (d : Dfa) (n m l r : Nat) : List Int := (List.range m).map fun x => cellS d n l r x
theorem rowS_len (d : Dfa) (n m l r : Nat) : (rowS d n m l r).length = m := by simp [rowS]
def rowsT (d : Dfa) (n m l k : Nat) : List AV := (List.range k).map fun r => rowT (rowS d n m l r)
theorem rowsT_len (d : Dfa) (n m l k : Nat) : (rowsT d n m l k).length = k := by simp [rowsT]
theorem rowsT_succ (d : Dfa) (n m l k : Nat) : rowsT d n m l (k + 1) = rowsT d n m l k ++ [rowT (rowS d n m l k)] := by
  unfold rowsT; rw [List.range_succ, List.map_append]; rfl

theorem ints_data (l : List Int) : (ints l).all data1 = true := by
  induction l with
  | nil => rfl
  | cons a l ih => simp [ints, data1]

section
variable {d : Dfa} {n m l B : Nat} {v2 : Int} {c1 c2 c3 : AV}
theorem sub_rows (hn : 0 < n) (hn8 : n ≤ 8) (hm : m ≤ 8) (hl : l < d.next.length) (hB : 2 < B) (hv : IntKind.i64.wrap (1 * 2 ^ min v2.toNat IntKind.i64.bits) = (m : Nat)) (hv0 : 0 ≤ v2) : ∀ e r G v, r + e = n → G[0]? = some (.cells false false d.cells) →
    G[2]? = some (.cells false false [.int .i64 v2, c1, c2, c3]) → B ≤ G.length → Grow 1 G B v (rowsT d n m l r) →
    ∃ G' v', L.loop a42l1s a42l1 ⟨a42l1F (.int .i64 n) (.ptr 0 0) (.ptr 1 0) (.ptr 2 0) (.int .i64 l) v (.int .i64 (r : Nat)), G⟩ =
      some (.exit 2, ⟨a42l1F (.int .i64 n) (.ptr 0 0) (.ptr 1 0) (.ptr 2 0) (.int .i64 l) v' (.int .i64 (n : Nat)), G'⟩) ∧ Grow 1 G' B v' (rowsT d n m l n) ∧ G.length ≤ G'.length ∧ ∀ b, b < B → G'[b]? = G[b]? := by
  intro e
  induction e with
  | zero =>
    intro r G v h h0 h2 hBG hv'
    obtain rfl : r = n := by omega
    refine ⟨G, v, ?_, hv', Nat.le_refl _, fun _ _ => rfl⟩
    rw [a42l1n]
    simp (maxSteps := 30000000) (disch := first | assumption | omega | (simp only [List.length_cons, List.length_nil, List.length_append, List.length_set, List.length_replicate, List.length_map, List.length_range, List.length_take, List.length_drop, List.all_cons, List.all_nil, AV.isCell, Bool.and_self, Bool.and_true, bs_length, is64_length, w64_length, ints_length, ints_length] <;> omega) | rfl | decide) only [a42l1b, run_seq, run_region, runOps_cons, oper_none, ex_mov, opv, List.getD_cons_succ, List.getD_cons_zero, putK_to, List.set_cons_succ, List.set_cons_zero, opsK_some, ex_bin, bin_lss, Int.lt_irrefl, decide_false, valK_some, runOps_nil, regK_some, seqK_normal, run_cond, condK_bool, Bool.false_eq_true, ↓reduceIte, run_exit, seqK_exit, loopK_exit, a42l1c]
  | succ e ih =>
    intro r G v h h0 h2 hBG hG
    have hlt : (r : Int) < (n : Nat) := by omega
    have hnn : ¬ v2 < 0 := by omega
    have hrow := sub_row (d := d) (n := n) (m := m) (l := l) (r := r) (k := G.length) (s4 := .ptr 1 0) (s5 := .ptr 2 0) (s7 := v) hn hn8 hm hl (by omega) m 0 (G ++ [.cells false false (ints (List.replicate m 0))]) (by omega) (app_get h0) (hget0 _ _)
    rw [hset0] at hrow
    have hrl := rowS_len d n m l r
    have hrowE : (List.range m).map (fun x => cellS d n l r x) = rowS d n m l r := rfl
    rw [hrowE] at hrow
    simp only [List.set_cons_zero, Int.natCast_zero] at hrow
    -- the row stands for its numbers
    have fr : Fz 1 (G ++ [.cells false false (ints (rowS d n m l r)), .cells false false [.own false G.length 0 m 1]]) G.length (.own false G.length 0 m 1) (rowT (rowS d n m l r)) := by
      have := Fz.row (G := G ++ [.cells false false (ints (rowS d n m l r)), .cells false false [.own false G.length 0 m 1]]) (B := G.length) (id := G.length) (es := 1) (n := m) (hget0 _ _) (ints_data _) (by rw [ints_length, hrl, Nat.mul_one]) (Nat.le_refl _)
      unfold rowT
      rw [hrl]
      exact this
    rcases hG with ⟨hts, rfl⟩ | ⟨id, cs, rfl, g2, g3, g4, g5⟩
    · have hr0 : r = 0 := by have := congrArg List.length hts; rw [rowsT_len] at this; simpa using this
      have hg' := Grow.first (B := B) (fr.low hBG) (by simp; omega)
      rw [List.append_assoc] at hg'
      obtain ⟨G', v', e1, e2, e3, e4⟩ := ih (r + 1) (G ++ ([.cells false false (ints (rowS d n m l r)), .cells false false [.own false G.length 0 m 1]] ++ [.cells false false [.own false G.length 0 m 1]])) (.own false (G.length + 2) 0 1 1) (by omega) (app_get h0) (app_get h2) (by simp; omega)
        (by rw [rowsT_succ, hts, List.nil_append]; simpa using hg')
      refine ⟨G', v', ?_, e2, by simp at e3; omega, fun b hb => (e4 b hb).trans (List.getElem?_append_left (by omega))⟩
      have h0' := fun T => app_get (X := T) h0
      have h2' := fun T => app_get (X := T) h2
      simp only [List.cons_append, List.nil_append] at e1
      rw [a42l1n]
      simp (maxSteps := 30000000) (disch := first | assumption | omega | (simp only [List.length_cons, List.length_nil, List.length_append, List.length_set, List.length_replicate, List.length_map, List.length_range, List.length_take, List.length_drop, List.all_cons, List.all_nil, AV.isCell, Bool.and_self, Bool.and_true, bs_length, is64_length, w64_length, ints_length, ints_length] <;> omega) | rfl | decide) only [a42l1b, run_seq, run_region, runOps_cons, oper_none, ex_mov, opv, List.getD_cons_succ, List.getD_cons_zero, putK_to, List.set_cons_succ, List.set_cons_zero, opsK_some, ex_bin, bin_lss, hlt, decide_true, valK_some, runOps_nil, regK_some, seqK_normal, run_cond, condK_bool, ↓reduceIte, run_skip, run_block, ex_faddr, faddrA_ptr, Nat.add_zero, ex_load, rd_ptr, h2, rdK_cells, List.drop_zero, List.take_succ_cons, List.take_zero, loadK_1, bin_shl, hv, ex_mkslice, mksK_int, Int.toNat_natCast, List.length_cons, List.length_nil, Nat.zero_add, repz_ints, newA_own, run_loop, a42l0c, hrow, blockK_exit, ex_bslice, AV.cells, List.all_cons, beq_self_eq_true, List.all_nil, Bool.and_self, repz_1, List.append_nil, Nat.mul_one, List.map_cons, List.map_nil, fillA, Nat.le_refl, AV.isCell, and_self, splice, List.nil_append, List.drop_succ_cons, List.drop_nil, newK_some, List.length_append, List.append_assoc, List.cons_append, ex_append, src_own, hget, List.getElem?_cons_succ, List.getElem?_cons_zero, srcK_cells, List.take_nil, appK_nil, Nat.reduceBEq, Nat.reduceAdd, blockK_normal, bin_add, cadd1, wr64, loopK_normal, a42l1c, e1]
    · have hidl := (List.getElem?_eq_some_iff.1 g2).1
      have g6 := rowsT_len d n m l r
      rw [g6] at g4
      have hg1 : Grow 1 (G ++ [.cells false false (ints (rowS d n m l r)), .cells false false [.own false G.length 0 m 1]]) B (.own false id 0 (rowsT d n m l r).length 1) (rowsT d n m l r) :=
        Grow.grow (.inr ⟨id, cs, rfl, g2, g3, by rw [g4, g6], g5⟩) (by simp) (fun b _ hb => List.getElem?_append_left hb)
      rcases hg1 with ⟨hts, hx⟩ | ⟨id', cs', k1, k2, k3, k4, k5⟩
      · cases hx
      have hid : id' = id := by cases k1; rfl
      subst hid
      have hcs : cs' = cs := by rw [app_get g2] at k2; cases k2; rfl
      subst hcs
      have hne : ∀ d', 1 ≤ d' → id' ∉ bor d' (G ++ [Blk.cells false false (ints (rowS d n m l r)), Blk.cells false false [.own false G.length 0 m 1]]) (.own false G.length 0 m 1) := fun d' hd' hm' => by
        have := ((fr d' hd').2 _ hm').1
        omega
      have hg' := Grow.push k2 k3 k4 k5 (fr.low hBG) hne
      obtain ⟨G', v', e1, e2, e3, e4⟩ := ih (r + 1) ((G ++ [Blk.cells false false (ints (rowS d n m l r)), Blk.cells false false [.own false G.length 0 m 1]]).set id' .dead ++ [.cells false false (cs' ++ [.own false G.length 0 m 1])]) (.own false (G.length + 2) 0 (r + 1) 1) (by omega)
        (app_get (by rw [List.getElem?_set_ne (by omega)]; exact app_get h0)) (app_get (by rw [List.getElem?_set_ne (by omega)]; exact app_get h2)) (by simp; omega)
        (by rw [rowsT_succ]; simpa [g6] using hg')
      refine ⟨G', v', ?_, e2, by simp at e3; omega, fun b hb => ?_⟩
      · have h0' := fun T => app_get (X := T) h0
        have h2' := fun T => app_get (X := T) h2
        have g2' := fun T => app_get (X := T) g2
        have htk : List.take r cs' = cs' := List.take_of_length_le (by omega)
        simp only [g6] at hrow ⊢
        rw [a42l1n]
        simp (maxSteps := 30000000) (disch := first | assumption | omega | (simp only [List.length_cons, List.length_nil, List.length_append, List.length_set, List.length_replicate, List.length_map, List.length_range, List.length_take, List.length_drop, List.all_cons, List.all_nil, AV.isCell, Bool.and_self, Bool.and_true, bs_length, is64_length, w64_length, ints_length, ints_length] <;> omega) | rfl | decide) only [a42l1b, run_seq, run_region, runOps_cons, oper_none, ex_mov, opv, List.getD_cons_succ, List.getD_cons_zero, putK_to, List.set_cons_succ, List.set_cons_zero, opsK_some, ex_bin, bin_lss, hlt, decide_true, valK_some, runOps_nil, regK_some, seqK_normal, run_cond, condK_bool, ↓reduceIte, run_skip, run_block, ex_faddr, faddrA_ptr, Nat.add_zero, ex_load, rd_ptr, h2, rdK_cells, List.drop_zero, List.take_succ_cons, List.take_zero, loadK_1, bin_shl, hv, ex_mkslice, mksK_int, Int.toNat_natCast, List.length_cons, List.length_nil, Nat.zero_add, repz_ints, newA_own, run_loop, a42l0c, hrow, blockK_exit, ex_bslice, AV.cells, List.all_cons, beq_self_eq_true, List.all_nil, Bool.and_self, repz_1, List.append_nil, Nat.mul_one, List.map_cons, List.map_nil, fillA, Nat.le_refl, AV.isCell, and_self, splice, List.nil_append, List.drop_succ_cons, List.drop_nil, newK_some, List.length_append, List.append_assoc, List.cons_append, ex_append, src_own, hget, List.getElem?_cons_succ, List.getElem?_cons_zero, srcK_cells, List.take_nil, appK_own, g2', appOK_cells, Nat.reduceBEq, Nat.reduceAdd, htk, blockK_normal, bin_add, cadd1, wr64, loopK_normal, a42l1c, e1]
      · rw [e4 b hb, List.getElem?_append_left (by simp; omega), List.getElem?_set_ne (by omega), List.getElem?_append_left (by omega)]
end
end Go.Abs.Det

/- sub: all states. -/
namespace Go.Abs.Det
open Go Go.Abs
set_option linter.unusedSimpArgs false
set_option linter.unusedVariables false

def stT (d : Dfa) (n m l : Nat) : List AV := (List.range l).map fun k => .sl false n (rowsT d n m k n)
def fiS (d : Dfa) (l : Nat) : List Bool := (List.range l).map fun k => d.fin.getD k false
theorem stT_len (d : Dfa) (n m l : Nat) : (stT d n m l).length = l := by simp [stT]
theorem stT_succ (d : Dfa) (n m k : Nat) : stT d n m (k + 1) = stT d n m k ++ [.sl false n (rowsT d n m k n)] := by
  unfold stT; rw [List.range_succ, List.map_append]; rfl
theorem fiS_len (d : Dfa) (l : Nat) : (fiS d l).length = l := by simp [fiS]
theorem fiS_succ (d : Dfa) (k : Nat) : fiS d (k + 1) = fiS d k ++ [d.fin.getD k false] := by
  unfold fiS; rw [List.range_succ, List.map_append]; rfl
theorem set_gapp {A T : Heap} {i : Nat} {X : Blk} (h : i < A.length) : (A.set i X ++ T)[i]? = some X := by
  rw [List.getElem?_append_left (by simpa using h), List.getElem?_set_self h]
theorem bool_at0 {l : List Bool} (h : 0 < l.length) : List.take 1 (bools l) = [AV.bool (l.getD 0 false)] := bool_at (i := 0) h
theorem bools_app (a b : List Bool) : bools a ++ bools b = bools (a ++ b) := by simp [bools]

/-- the part under way: the values of the two fields -/
inductive Under (d : Dfa) (n m l : Nat) (v2 em : Int) (G : Heap) : Prop
  | zero (h : l = 0) (h2 : G[2]? = some (.cells false false [.int .i64 v2, .int .i64 em, .sl true 0 [], .sl true 0 []]))
  | some (id f : Nat) (cs : List AV) (h : l ≠ 0) (h2 : G[2]? = some (.cells false false [.int .i64 v2, .int .i64 em, .own false id 0 l 1, .own false f 0 l 1]))
      (hi : G[id]? = some (.cells false false cs)) (hf : G[f]? = some (.cells false false (bools (fiS d l)))) (i3 : 3 ≤ id) (f3 : 3 ≤ f) (hne : id ≠ f) (hl : cs.length = l)
      (he : ∀ (i : Nat) (c t : AV), cs[i]? = some c → (stT d n m l)[i]? = some t → Fz 2 G 3 c t ∧ ∀ q, 2 ≤ q → id ∉ bor q G c ∧ f ∉ bor q G c)

set_option maxHeartbeats 1000000 in
theorem sub_states {d : Dfa} {n m : Nat} {v2 em : Int} {x1 : Blk} (hn : 0 < n) (hn8 : n ≤ 8) (hm : m ≤ 8) (hnl : n ≤ d.next.length) (hv : IntKind.i64.wrap (1 * 2 ^ min v2.toNat IntKind.i64.bits) = (m : Nat)) (hv0 : 0 ≤ v2) : ∀ e l G, l + e = n → G[0]? = some (.cells false false d.cells) → G[1]? = some x1 → Under d n m l v2 em G →
    ∃ G', L.loop a42l2s a42l2 ⟨a42l2F (.int .i64 n) (.ptr 0 0) (.ptr 1 0) (.ptr 2 0) (.int .i64 (l : Nat)), G⟩ =
      some (.exit 0, ⟨a42l2F (.int .i64 n) (.ptr 0 0) (.ptr 1 0) (.ptr 2 0) (.int .i64 (n : Nat)), G'⟩) ∧ G'[1]? = some x1 ∧ Under d n m n v2 em G' := by
  intro e
  induction e with
  | zero =>
    intro l G h h0 h1 hU
    obtain rfl : l = n := by omega
    refine ⟨G, ?_, h1, hU⟩
    rw [a42l2n]
    simp (maxSteps := 30000000) (disch := first | assumption | omega | (simp only [List.length_cons, List.length_nil, List.length_append, List.length_set, List.length_replicate, List.length_map, List.length_range, List.length_take, List.length_drop, List.all_cons, List.all_nil, AV.isCell, Bool.and_self, Bool.and_true, bs_length, is64_length, w64_length, ints_length, ints_length, bools_len] <;> omega) | rfl | decide) only [a42l2b, run_seq, run_region, runOps_cons, oper_none, ex_mov, opv, List.getD_cons_succ, List.getD_cons_zero, putK_to, List.set_cons_succ, List.set_cons_zero, opsK_some, ex_bin, bin_lss, Int.lt_irrefl, decide_false, valK_some, runOps_nil, regK_some, seqK_normal, run_cond, condK_bool, Bool.false_eq_true, ↓reduceIte, run_exit, seqK_exit, loopK_exit, a42l2c]
  | succ e ih =>
    intro l G h h0 h1 hU
    have hlt : (l : Int) < (n : Nat) := by omega
    have g3 : 3 ≤ G.length := by
      cases hU with
      | zero _ h2 => exact (List.getElem?_eq_some_iff.1 h2).1
      | some id f cs _ h2 => exact (List.getElem?_eq_some_iff.1 h2).1
    obtain ⟨w1, w2, h2⟩ : ∃ w1 w2, G[2]? = some (.cells false false [.int .i64 v2, .int .i64 em, w1, w2]) := by
      cases hU with
      | zero _ h2 => exact ⟨_, _, h2⟩
      | some id f cs _ h2 => exact ⟨_, _, h2⟩
    obtain ⟨G2, v', r1, r2, r3, r4⟩ := sub_rows (d := d) (n := n) (m := m) (l := l) (B := G.length) (v2 := v2) hn hn8 hm (by omega) (by omega) hv hv0 n 0 G (.sl true 0 []) (by omega) h0 h2 (Nat.le_refl _) (.inl ⟨rfl, rfl⟩)
    have fz := r2.fz
    rw [rowsT_len] at fz
    have hz : (n == 0) = false := by rw [beq_eq_false_iff_ne]; omega
    rw [hz] at fz
    have fz' : Fz 2 G2 G.length v' (.sl false n (rowsT d n m l n)) := by
      rcases fz with q | q
      · exact q
      · have := rowsT_len d n m l n; rw [q] at this; simp at this; omega
    obtain ⟨nid, rfl, hnid⟩ : ∃ nid, v' = .own false nid 0 n 1 ∧ nid < G2.length := by
      rcases r2 with ⟨q, _⟩ | ⟨nid, cs, q, q2, _⟩
      · have := rowsT_len d n m l n; rw [q] at this; simp at this; omega
      · rw [rowsT_len] at q
        exact ⟨nid, q, (List.getElem?_eq_some_iff.1 q2).1⟩
    clear fz r2
    simp only [Int.natCast_zero] at r1
    have hz0 : G2[0]? = some (.cells false false d.cells) := (r4 0 (by omega)).trans h0
    have hz1 : G2[1]? = some x1 := (r4 1 (by omega)).trans h1
    have hgd : ∀ b : Bool, d.fin.getD l false = b → True := fun _ _ => trivial
    cases hU with
    | zero hl0 h2' =>
      subst hl0
      have hz2 : G2[2]? = some (.cells false false [.int .i64 v2, .int .i64 em, .sl true 0 [], .sl true 0 []]) := (r4 2 (by omega)).trans h2'
      obtain ⟨H', hH⟩ : ∃ H' : Heap, H' = (((G2 ++ [Blk.cells false false [.own false nid 0 n 1], Blk.cells false false [.own false nid 0 n 1]]).set 2 (.cells false false [.int .i64 v2, .int .i64 em, .own false (G2.length + 1) 0 1 1, .sl true 0 []])) ++ [Blk.cells false false [.bool (d.fin.getD 0 false)]]).set 2 (.cells false false [.int .i64 v2, .int .i64 em, .own false (G2.length + 1) 0 1 1, .own false (G2.length + 2) 0 1 1]) := ⟨_, rfl⟩
      have same : ∀ b, b ≠ 2 → b < G2.length → H'[b]? = G2[b]? := fun b hb hb2 => by
        rw [hH, List.getElem?_set_ne (Ne.symm hb), List.getElem?_append_left (by simp; omega), List.getElem?_set_ne (Ne.symm hb), List.getElem?_append_left hb2]
      have hlen : H'.length = G2.length + 3 := by simp [hH]
      have hs2 : H'[2]? = some (.cells false false [.int .i64 v2, .int .i64 em, .own false (G2.length + 1) 0 1 1, .own false (G2.length + 2) 0 1 1]) := by rw [hH]; exact List.getElem?_set_self (by simp)
      have hs3 : H'[G2.length + 1]? = some (.cells false false [.own false nid 0 n 1]) := by
        rw [hH, List.getElem?_set_ne (by omega), List.getElem?_append_left (by simp), List.getElem?_set_ne (by omega)]
        exact hget _ _ 1
      have hs4 : H'[G2.length + 2]? = some (.cells false false [.bool (d.fin.getD 0 false)]) := by
        rw [hH, List.getElem?_set_ne (by omega), List.getElem?_append_right (by simp)]
        simp
      have fzH : Fz 2 H' G.length (.own false nid 0 n 1) (.sl false n (rowsT d n m 0 n)) := fz'.frame (by omega) fun q hq b hb => by
        have := (fz' q hq).2 b hb
        exact same b (by omega) this.2
      have hU' : Under d n m 1 v2 em H' := .some (G2.length + 1) (G2.length + 2) [.own false nid 0 n 1] (by omega) hs2 hs3 (by rw [hs4]; rfl) (by omega) (by omega) (by omega) rfl (fun i c t hc ht => by
        have e0 : i = 0 := by
          cases i with
          | zero => rfl
          | succ i => simp at hc
        subst e0
        simp at hc
        subst hc
        have : t = .sl false n (rowsT d n m 0 n) := by simpa [stT] using ht.symm
        subst this
        refine ⟨fzH.low (by omega), fun q hq => ?_⟩
        have hb2 := (frz_frame q _ (fun b hb => by have := (fz' q hq).2 b hb; exact same b (by omega) this.2)).2
        rw [hb2]
        exact ⟨fun hm' => by have := (fz' q hq).2 _ hm'; omega, fun hm' => by have := (fz' q hq).2 _ hm'; omega⟩)
      obtain ⟨G', e1, e2, e3⟩ := ih 1 H' (by omega) (by rw [same 0 (by omega) (by omega)]; exact hz0) (by rw [same 1 (by omega) (by omega)]; exact hz1) hU'
      refine ⟨G', ?_, e2, e3⟩
      have hz2' := fun T => app_get (X := T) hz2
      have hz0' := fun T => app_get (X := T) hz0
      have s2 : ∀ (A : Heap) (x y : Blk), 2 < A.length → (A.set 2 x)[2]? = some x := fun A x y h => List.getElem?_set_self h
      unfold Dfa.cells at hz0 hz0'
      rw [hH] at e1
      simp only [Int.natCast_zero, Int.natCast_one] at hlt e1 r1 ⊢
      rw [a42l2n]
      by_cases c : 0 < d.fin.length
      · have c' : (0 : Int) < (d.fin.length : Nat) := by omega
        simp (maxSteps := 30000000) (disch := first | assumption | omega | (simp only [List.length_cons, List.length_nil, List.length_append, List.length_set, List.length_replicate, List.length_map, List.length_range, List.length_take, List.length_drop, List.all_cons, List.all_nil, AV.isCell, Bool.and_self, Bool.and_true, bs_length, is64_length, w64_length, ints_length, ints_length, bools_len] <;> omega) | rfl | decide) only [a42l2b, run_seq, run_region, runOps_cons, oper_none, ex_mov, opv, List.getD_cons_succ, List.getD_cons_zero, putK_to, List.set_cons_succ, List.set_cons_zero, opsK_some, ex_bin, bin_lss, hlt, decide_true, valK_some, runOps_nil, regK_some, seqK_normal, run_cond, condK_bool, ↓reduceIte, run_skip, run_block, run_loop, a42l1c, r1, blockK_exit, ex_faddr, faddrA_ptr, Nat.zero_add, ex_load, rd_ptr, hz2, rdK_cells, List.drop_succ_cons, List.drop_zero, List.take_succ_cons, List.take_zero, loadK_1, ex_bslice, AV.cells, List.all_cons, List.length_cons, List.length_nil, beq_self_eq_true, List.all_nil, Bool.and_self, repz_1, List.append_nil, Nat.mul_one, List.map_cons, List.map_nil, fillA, Nat.le_refl, AV.isCell, and_self, splice, List.nil_append, List.drop_nil, newK_some, newA_own, ex_append, src_own, hget0, List.getElem?_cons_zero, srcK_cells, List.take_nil, appK_nil, Nat.reduceBEq, List.length_append, List.append_assoc, List.cons_append, ex_store, wr_ptr, hz2', wrK_cells, Nat.reduceAdd, storeK_some, putK_no, run_draw, runFree_cons, foper_none, fe_faddr, fstK_some, fputK_to, freeK_some, fe_load, List.getElem?_set_self, fe_mov, List.getElem?_set_ne, hz0', fe_len, ex_len, lenA_sl, fe_bin, c', foper_guard, fguardK_bool, runFree_nil, drawK_some, adopt, adoptVal, oper_guard, guardK_bool, ex_iaddr, iaddrA_sl, Int.toNat_zero, rd_vptr, bool_at0, ex_pick, pickA_bool, newA_data, frzN, List.flatMap_cons, bor_bool, List.flatMap_nil, List.isEmpty_nil, List.mapM_cons, frz_bool, List.mapM_nil, Option.pure_def, Option.bind_eq_bind, Option.bind_some, slK_some, src_sl, List.length_set, set_gapp, blockK_normal, bin_add, Int.zero_add, wr64, loopK_normal, a42l2c, e1]
      · have c' : ¬ (0 : Int) < (d.fin.length : Nat) := by omega
        have hgd : d.fin.getD 0 false = false := by
          rw [List.getD_eq_getElem?_getD, List.getElem?_eq_none (by omega)]; rfl
        rw [hgd] at e1
        simp (maxSteps := 30000000) (disch := first | assumption | omega | (simp only [List.length_cons, List.length_nil, List.length_append, List.length_set, List.length_replicate, List.length_map, List.length_range, List.length_take, List.length_drop, List.all_cons, List.all_nil, AV.isCell, Bool.and_self, Bool.and_true, bs_length, is64_length, w64_length, ints_length, ints_length, bools_len] <;> omega) | rfl | decide) only [a42l2b, run_seq, run_region, runOps_cons, oper_none, ex_mov, opv, List.getD_cons_succ, List.getD_cons_zero, putK_to, List.set_cons_succ, List.set_cons_zero, opsK_some, ex_bin, bin_lss, hlt, decide_true, valK_some, runOps_nil, regK_some, seqK_normal, run_cond, condK_bool, ↓reduceIte, run_skip, run_block, run_loop, a42l1c, r1, blockK_exit, ex_faddr, faddrA_ptr, Nat.zero_add, ex_load, rd_ptr, hz2, rdK_cells, List.drop_succ_cons, List.drop_zero, List.take_succ_cons, List.take_zero, loadK_1, ex_bslice, AV.cells, List.all_cons, List.length_cons, List.length_nil, beq_self_eq_true, List.all_nil, Bool.and_self, repz_1, List.append_nil, Nat.mul_one, List.map_cons, List.map_nil, fillA, Nat.le_refl, AV.isCell, and_self, splice, List.nil_append, List.drop_nil, newK_some, newA_own, ex_append, src_own, hget0, List.getElem?_cons_zero, srcK_cells, List.take_nil, appK_nil, Nat.reduceBEq, List.length_append, List.append_assoc, List.cons_append, ex_store, wr_ptr, hz2', wrK_cells, Nat.reduceAdd, storeK_some, putK_no, run_draw, runFree_cons, foper_none, fe_faddr, fstK_some, fputK_to, freeK_some, fe_load, List.getElem?_set_self, fe_mov, List.getElem?_set_ne, hz0', fe_len, ex_len, lenA_sl, fe_bin, c', decide_false, foper_guard, fguardK_bool, Bool.false_eq_true, putA_to, runFree_nil, drawK_some, adopt, adoptVal, oper_guard, guardK_bool, ex_pick, pickA_bool, newA_data, frzN, List.flatMap_cons, bor_bool, List.flatMap_nil, List.isEmpty_nil, List.mapM_cons, frz_bool, List.mapM_nil, Option.pure_def, Option.bind_eq_bind, Option.bind_some, slK_some, src_sl, List.length_set, set_gapp, blockK_normal, bin_add, Int.zero_add, wr64, loopK_normal, a42l2c, e1]
    | some id f cs hl0 h2' hi hf i3 f3 hne hl he =>
      have hidl := (List.getElem?_eq_some_iff.1 hi).1
      have hfl := (List.getElem?_eq_some_iff.1 hf).1
      have hz2 : G2[2]? = some (.cells false false [.int .i64 v2, .int .i64 em, .own false id 0 l 1, .own false f 0 l 1]) := (r4 2 (by omega)).trans h2'
      have hzi : G2[id]? = some (.cells false false cs) := (r4 id hidl).trans hi
      have hzf : G2[f]? = some (.cells false false (bools (fiS d l))) := (r4 f hfl).trans hf
      obtain ⟨X, hX⟩ : ∃ X, X = Blk.cells false false [.int .i64 v2, .int .i64 em, .own false (G2.length + 1) 0 (l + 1) 1, .own false f 0 l 1] := ⟨_, rfl⟩
      obtain ⟨Y, hY⟩ : ∃ Y, Y = Blk.cells false false [.int .i64 v2, .int .i64 em, .own false (G2.length + 1) 0 (l + 1) 1, .own false (G2.length + 2) 0 (l + 1) 1] := ⟨_, rfl⟩
      obtain ⟨H', hH⟩ : ∃ H' : Heap, H' = (((((G2 ++ [Blk.cells false false [.own false nid 0 n 1]]).set id .dead) ++ [Blk.cells false false (cs ++ [.own false nid 0 n 1])]).set 2 X).set f .dead ++ [Blk.cells false false (bools (fiS d l ++ [d.fin.getD l false]))]).set 2 Y := ⟨_, rfl⟩
      have same : ∀ b, b ≠ 2 → b ≠ id → b ≠ f → b < G2.length → H'[b]? = G2[b]? := fun b hb hbi hbf hb2 => by
        rw [hH, List.getElem?_set_ne (Ne.symm hb), List.getElem?_append_left (by simp; omega), List.getElem?_set_ne (Ne.symm hbf), List.getElem?_set_ne (Ne.symm hb), List.getElem?_append_left (by simp; omega), List.getElem?_set_ne (Ne.symm hbi), List.getElem?_append_left hb2]
      have hlen : H'.length = G2.length + 3 := by simp [hH]
      have hs2 : H'[2]? = some Y := by rw [hH]; exact List.getElem?_set_self (by simp)
      have hs3 : H'[G2.length + 1]? = some (.cells false false (cs ++ [.own false nid 0 n 1])) := by
        rw [hH, List.getElem?_set_ne (by omega), List.getElem?_append_left (by simp), List.getElem?_set_ne (by omega), List.getElem?_set_ne (by omega), List.getElem?_append_right (by simp)]
        simp
      have hs4 : H'[G2.length + 2]? = some (.cells false false (bools (fiS d (l + 1)))) := by
        rw [hH, List.getElem?_set_ne (by omega), List.getElem?_append_right (by simp), fiS_succ]
        simp
      have fzH : Fz 2 H' G.length (.own false nid 0 n 1) (.sl false n (rowsT d n m l n)) := fz'.frame (by omega) fun q hq b hb => by
        have := (fz' q hq).2 b hb
        exact same b (by omega) (by omega) (by omega) this.2
      have hU' : Under d n m (l + 1) v2 em H' := .some (G2.length + 1) (G2.length + 2) (cs ++ [.own false nid 0 n 1]) (by omega) (by rw [hs2, hY]) hs3 hs4 (by omega) (by omega) (by omega) (by simp [hl]) (fun i c t hc ht => by
        rw [stT_succ] at ht
        by_cases hil : i < cs.length
        · rw [List.getElem?_append_left hil] at hc
          rw [List.getElem?_append_left (by rw [stT_len]; omega)] at ht
          obtain ⟨k1, k2⟩ := he i c t hc ht
          have hG2 : ∀ q, 2 ≤ q → ∀ b ∈ bor q G c, H'[b]? = G[b]? := fun q hq b hb => by
            have hb' := (k1 q hq).2 b hb
            have hk := k2 q hq
            rw [same b (by omega) (fun e => hk.1 (e ▸ hb)) (fun e => hk.2 (e ▸ hb)) (by omega)]
            exact r4 b hb'.2
          refine ⟨k1.frame (by omega) hG2, fun q hq => ?_⟩
          rw [(frz_frame q c (hG2 q hq)).2]
          exact ⟨fun hm' => by have := (k1 q hq).2 _ hm'; omega, fun hm' => by have := (k1 q hq).2 _ hm'; omega⟩
        · rw [List.getElem?_append_right (by omega)] at hc
          rw [List.getElem?_append_right (by rw [stT_len]; omega), stT_len, ← hl] at ht
          have e0 : i - cs.length = 0 := by
            cases e : i - cs.length with
            | zero => rfl
            | succ j => rw [e] at hc; simp at hc
          rw [e0] at hc ht
          simp at hc ht
          subst hc; subst ht
          refine ⟨by rw [hl]; exact fzH.low (by omega), fun q hq => ?_⟩
          have hb2 := (frz_frame q _ (fun b hb => by have := (fz' q hq).2 b hb; exact same b (by omega) (by omega) (by omega) this.2)).2
          rw [hb2]
          exact ⟨fun hm' => by have := (fz' q hq).2 _ hm'; omega, fun hm' => by have := (fz' q hq).2 _ hm'; omega⟩)
      obtain ⟨G', e1, e2, e3⟩ := ih (l + 1) H' (by omega) (by rw [same 0 (by omega) (by omega) (by omega) (by omega)]; exact hz0) (by rw [same 1 (by omega) (by omega) (by omega) (by omega)]; exact hz1) hU'
      refine ⟨G', ?_, e2, e3⟩
      have hz2' := fun T => app_get (X := T) hz2
      have hz0' := fun T => app_get (X := T) hz0
      have hzi' := fun T => app_get (X := T) hzi
      have q1 : ∀ T T' : Heap, ((G2 ++ T).set id .dead ++ T')[2]? = some (.cells false false [.int .i64 v2, .int .i64 em, .own false id 0 l 1, .own false f 0 l 1]) := fun T T' => app_get (by rw [List.getElem?_set_ne (by omega)]; exact app_get hz2)
      have q0 : ∀ (T T' : Heap) (Z : Blk), (((G2 ++ T).set id .dead ++ T').set 2 Z)[0]? = some (.cells false false d.cells) := fun T T' Z => by
        rw [List.getElem?_set_ne (by omega)]
        exact app_get (by rw [List.getElem?_set_ne (by omega)]; exact app_get hz0)
      have q2 : ∀ (T T' : Heap) (Z : Blk), (((G2 ++ T).set id .dead ++ T').set 2 Z)[f]? = some (.cells false false (bools (fiS d l))) := fun T T' Z => by
        rw [List.getElem?_set_ne (by omega)]
        exact app_get (by rw [List.getElem?_set_ne (by omega)]; exact app_get hzf)
      have q4 : ∀ (T T' : Heap) (Z : Blk), (((G2 ++ T).set id .dead ++ T').set 2 Z)[2]? = some Z := fun T T' Z => List.getElem?_set_self (by simp; omega)
      have q3 : ∀ (T T' T2 : Heap) (Z : Blk), ((((G2 ++ T).set id .dead ++ T').set 2 Z).set f .dead ++ T2)[2]? = some Z := fun T T' T2 Z => app_get (by rw [List.getElem?_set_ne (by omega)]; exact q4 T T' Z)
      have htk : List.take l cs = cs := List.take_of_length_le (by omega)
      have htf : List.take l (bools (fiS d l)) = bools (fiS d l) := List.take_of_length_le (by rw [bools_len, fiS_len]; exact Nat.le_refl _)
      have hbl : (bools (fiS d l)).length = l := by rw [bools_len, fiS_len]
      have hsn : ∀ b : Bool, bools (fiS d l) ++ [AV.bool b] = bools (fiS d l ++ [b]) := fun b => by rw [← bools_app]; rfl
      unfold Dfa.cells at hz0 hz0' q0
      rw [hH, hX, hY] at e1
      rw [a42l2n]
      by_cases c : l < d.fin.length
      · have c' : ((l : Nat) : Int) < (d.fin.length : Nat) := by omega
        simp (maxSteps := 30000000) (disch := first | assumption | omega | (simp only [List.length_cons, List.length_nil, List.length_append, List.length_set, List.length_replicate, List.length_map, List.length_range, List.length_take, List.length_drop, List.all_cons, List.all_nil, AV.isCell, Bool.and_self, Bool.and_true, bs_length, is64_length, w64_length, ints_length, ints_length, bools_len] <;> omega) | rfl | decide) only [a42l2b, run_seq, run_region, runOps_cons, oper_none, ex_mov, opv, List.getD_cons_succ, List.getD_cons_zero, putK_to, List.set_cons_succ, List.set_cons_zero, opsK_some, ex_bin, bin_lss, hlt, decide_true, valK_some, runOps_nil, regK_some, seqK_normal, run_cond, condK_bool, ↓reduceIte, run_skip, run_block, run_loop, a42l1c, r1, blockK_exit, ex_faddr, faddrA_ptr, Nat.zero_add, ex_load, rd_ptr, hz2, rdK_cells, List.drop_succ_cons, List.drop_zero, List.take_succ_cons, List.take_zero, loadK_1, ex_bslice, AV.cells, List.all_cons, List.length_cons, List.length_nil, beq_self_eq_true, List.all_nil, Bool.and_self, repz_1, List.append_nil, Nat.mul_one, List.map_cons, List.map_nil, fillA, Nat.le_refl, AV.isCell, and_self, splice, List.nil_append, List.drop_nil, newK_some, newA_own, ex_append, src_own, hget0, List.getElem?_cons_zero, srcK_cells, List.take_nil, appK_own, hzi', appOK_cells, Nat.reduceBEq, List.length_append, htk, ex_store, wr_ptr, q1, wrK_cells, List.cons_append, Nat.reduceAdd, storeK_some, putK_no, run_draw, runFree_cons, foper_none, fe_faddr, fstK_some, fputK_to, freeK_some, fe_load, q4, fe_mov, q0, fe_len, ex_len, lenA_sl, fe_bin, c', foper_guard, fguardK_bool, runFree_nil, drawK_some, adopt, adoptVal, oper_guard, guardK_bool, ex_iaddr, iaddrA_sl, Int.toNat_natCast, rd_vptr, bool_at, ex_pick, pickA_bool, newA_data, frzN, List.flatMap_cons, bor_bool, List.flatMap_nil, List.isEmpty_nil, List.mapM_cons, frz_bool, List.mapM_nil, Option.pure_def, Option.bind_eq_bind, Option.bind_some, slK_some, src_sl, q2, List.length_set, htf, hsn, q3, blockK_normal, bin_add, cadd1, wr64, loopK_normal, a42l2c, e1]
      · have c' : ¬ ((l : Nat) : Int) < (d.fin.length : Nat) := by omega
        have hgd : d.fin.getD l false = false := by
          rw [List.getD_eq_getElem?_getD, List.getElem?_eq_none (by omega)]; rfl
        rw [hgd] at e1
        simp (maxSteps := 30000000) (disch := first | assumption | omega | (simp only [List.length_cons, List.length_nil, List.length_append, List.length_set, List.length_replicate, List.length_map, List.length_range, List.length_take, List.length_drop, List.all_cons, List.all_nil, AV.isCell, Bool.and_self, Bool.and_true, bs_length, is64_length, w64_length, ints_length, ints_length, bools_len] <;> omega) | rfl | decide) only [a42l2b, run_seq, run_region, runOps_cons, oper_none, ex_mov, opv, List.getD_cons_succ, List.getD_cons_zero, putK_to, List.set_cons_succ, List.set_cons_zero, opsK_some, ex_bin, bin_lss, hlt, decide_true, valK_some, runOps_nil, regK_some, seqK_normal, run_cond, condK_bool, ↓reduceIte, run_skip, run_block, run_loop, a42l1c, r1, blockK_exit, ex_faddr, faddrA_ptr, Nat.zero_add, ex_load, rd_ptr, hz2, rdK_cells, List.drop_succ_cons, List.drop_zero, List.take_succ_cons, List.take_zero, loadK_1, ex_bslice, AV.cells, List.all_cons, List.length_cons, List.length_nil, beq_self_eq_true, List.all_nil, Bool.and_self, repz_1, List.append_nil, Nat.mul_one, List.map_cons, List.map_nil, fillA, Nat.le_refl, AV.isCell, and_self, splice, List.nil_append, List.drop_nil, newK_some, newA_own, ex_append, src_own, hget0, List.getElem?_cons_zero, srcK_cells, List.take_nil, appK_own, hzi', appOK_cells, Nat.reduceBEq, List.length_append, htk, ex_store, wr_ptr, q1, wrK_cells, List.cons_append, Nat.reduceAdd, storeK_some, putK_no, run_draw, runFree_cons, foper_none, fe_faddr, fstK_some, fputK_to, freeK_some, fe_load, q4, fe_mov, q0, fe_len, ex_len, lenA_sl, fe_bin, c', decide_false, foper_guard, fguardK_bool, Bool.false_eq_true, putA_to, runFree_nil, drawK_some, adopt, adoptVal, oper_guard, guardK_bool, ex_pick, pickA_bool, newA_data, frzN, List.flatMap_cons, bor_bool, List.flatMap_nil, List.isEmpty_nil, List.mapM_cons, frz_bool, List.mapM_nil, Option.pure_def, Option.bind_eq_bind, Option.bind_some, slK_some, src_sl, q2, List.length_set, htf, hsn, q3, blockK_normal, bin_add, cadd1, wr64, loopK_normal, a42l2c, e1]
end Go.Abs.Det

/- sub. -/
namespace Go.Abs.Det
open Go Go.Abs
set_option linter.unusedSimpArgs false
set_option linter.unusedVariables false

theorem bools_data (l : List Bool) : (bools l).all data1 = true := by
  induction l with
  | nil => rfl
  | cons a l ih => simp [bools, data1]

/-- the values stand for data -/
theorem under_fz {d : Dfa} {n m l : Nat} {v2 em : Int} {G : Heap} (h : Under d n m l v2 em G) (hl : l ≠ 0) :
    ∃ i f : Nat, G[2]? = some (Blk.cells false false [.int .i64 v2, .int .i64 em, .own false i 0 l 1, .own false f 0 l 1]) ∧ Fz 3 G 3 (.own false i 0 l 1) (.sl false l (stT d n m l)) ∧ Fz 1 G 3 (.own false f 0 l 1) (.sl false l (bools (fiS d l))) := by
  cases h with
  | zero h0 => exact absurd h0 hl
  | some id f cs h h2 hi hf i3 f3 hne hcl he =>
    refine ⟨_, _, h2, ?_, ?_⟩
    · have hg : Grow 2 G 3 (.own false id 0 l 1) (stT d n m l) := .inr ⟨id, cs, by rw [stT_len], hi, i3, by rw [stT_len]; exact hcl, fun i c t hc ht => ⟨(he i c t hc ht).1, fun q hq => ((he i c t hc ht).2 q hq).1⟩⟩
      have := hg.fz
      rw [stT_len] at this
      have hz : (l == 0) = false := by rw [beq_eq_false_iff_ne]; exact hl
      rw [hz] at this
      rcases this with q | q
      · exact q
      · have := stT_len d n m l; rw [q] at this; exact absurd this.symm hl
    · have := Fz.row (B := 3) (es := 1) (n := l) hf (bools_data _) (by rw [bools_len, fiS_len, Nat.mul_one]) f3
      exact this

def two (v : Int) : Nat := 2 ^ v.toNat
/-- the part with at most 8 states -/
def subT (d : Dfa) : AV :=
  if d.next.length = 0 then .agg [.int .i64 (nrm d.vars 3), .int .i64 0, .sl true 0 [], .sl true 0 []] else
    .agg [.int .i64 (nrm d.vars 3), .int .i64 (nrm d.empty (min 8 d.next.length : Nat)), .sl false (min 8 d.next.length) (stT d (min 8 d.next.length) (two (nrm d.vars 3)) (min 8 d.next.length)), .sl false (min 8 d.next.length) (bools (fiS d (min 8 d.next.length)))]

theorem pbody_of {fn : AFunc} {args : List AV} {r v : AV} {H : Heap} (h : bodyA L fn args [] = some (r, H)) (hf : frz frzN H r = some v) : pbodyA L fn args = some v := by
  unfold pbodyA; rw [h]; exact hf

set_option maxHeartbeats 1000000 in
theorem sub42 (d : Dfa) : L.pcall 42 [d.av, .int .i64 8] = some (subT d) := by
  have b3 := nrm_bd d.vars (n := 3) (by omega)
  have t3 := tmod_bd d.vars (n := 3) (by omega)
  have e8 : min (8 : Int) (d.next.length : Nat) = ((min 8 d.next.length : Nat) : Int) := by omega
  unfold subT
  have hnr : nrm d.vars 3 = (d.vars.tmod 3 + 3).tmod 3 := rfl
  generalize hv2 : nrm d.vars 3 = v2 at *
  generalize hq : d.vars.tmod 3 = q at *
  have hq2 : (q + 3).tmod 3 = v2 := hnr.symm
  by_cases h0 : d.next.length = 0
  · rw [if_pos h0]
    have e80 : min (8 : Int) (d.next.length : Nat) = 0 := by omega
    unfold Dfa.av Dfa.cells
    rw [a42p, a42, pbodyA_eq]
    simp (maxSteps := 30000000) (disch := first | assumption | omega | (simp only [List.length_cons, List.length_nil, List.length_append, List.length_set, List.length_replicate, List.length_map, List.length_range, List.length_take, List.length_drop, List.all_cons, List.all_nil, AV.isCell, Bool.and_self, Bool.and_true, bs_length, is64_length, w64_length, ints_length, ints_length, bools_len] <;> omega) | rfl | decide) only [bodyA_eq, List.length_cons, List.length_nil, Nat.zero_add, Nat.reduceAdd, Nat.reduceSub, pads, List.cons_append, List.nil_append, run_seq, run_region, runOps_cons, oper_none, ex_box, AV.cells, opv, List.getD_cons_zero, List.all_cons, AV.isCell, List.all_nil, Bool.and_self, ↓reduceIte, putK_to, List.set_cons_succ, List.set_cons_zero, opsK_some, runOps_nil, regK_some, seqK_normal, ex_mov, List.getD_cons_succ, ex_faddr, faddrA_ptr, valK_some, ex_load, rd_ptr, List.getElem?_cons_zero, rdK_cells, List.drop_succ_cons, List.drop_zero, List.take_succ_cons, List.take_zero, loadK_1, ex_len, lenA_sl, ex_mini, minA_int, e80, Nat.add_zero, ex_bin, bin_rem, hq, bin_add, wr64, hq2, ex_build, beq_self_eq_true, List.map_cons, List.map_nil, fillA, Nat.reduceLeDiff, and_self, splice, Option.map_some, ex_store, wr_ptr, List.getElem?_cons_succ, wrK_cells, List.drop_nil, List.append_nil, storeK_some, putK_no, bin_eql, decide_true, run_cond, condK_bool, List.take_nil, loadK_n, run_ret, seqK_ret, bodyK_ret, results_1, res_cell, cellK_some, mkv_n, retvK_some, pbodyK_some, frzN, frz_agg, List.mapM_cons, frz_int, frz_sl, List.mapM_nil, Option.pure_def, Option.bind_eq_bind, Option.bind_some]
  · rw [if_neg h0]
    have hn0 : 0 < min 8 d.next.length := by omega
    have hn8 : min 8 d.next.length ≤ 8 := by omega
    have hnl : min 8 d.next.length ≤ d.next.length := by omega
    generalize min 8 d.next.length = n at *
    have te := tmod_bd d.empty (n := (n : Int)) (by omega)
    have hne : nrm d.empty (n : Int) = (d.empty.tmod (n : Int) + (n : Int)).tmod (n : Int) := rfl
    generalize nrm d.empty (n : Int) = em at *
    generalize hqe : d.empty.tmod (n : Int) = qe at *
    have hqe2 : (qe + (n : Int)).tmod (n : Int) = em := hne.symm
    have hm : two v2 ≤ 8 ∧ IntKind.i64.wrap (1 * 2 ^ min v2.toNat IntKind.i64.bits) = (two v2 : Nat) := by
      have : v2 = 0 ∨ v2 = 1 ∨ v2 = 2 := by omega
      rcases this with rfl | rfl | rfl
      · exact ⟨by decide, by decide⟩
      · exact ⟨by decide, by decide⟩
      · exact ⟨by decide, by decide⟩
    obtain ⟨G', e1, e2, e3⟩ := sub_states (d := d) (n := n) (m := two v2) (v2 := v2) (em := em) (x1 := .cells false false [.int .i64 0, .int .i64 0, .sl true 0 [], .sl true 0 []]) hn0 hn8 hm.1 hnl hm.2 (by omega) n 0
      [.cells false false d.cells, .cells false false [.int .i64 0, .int .i64 0, .sl true 0 [], .sl true 0 []], .cells false false [.int .i64 v2, .int .i64 em, .sl true 0 [], .sl true 0 []]] (by omega) rfl rfl (.zero rfl rfl)
    obtain ⟨i1, i2, g2, f1, f2⟩ := under_fz e3 (by omega)
    have hnn : ((n : Nat) : Int) ≠ 0 := by omega
    have hlen : 3 ≤ G'.length := (List.getElem?_eq_some_iff.1 g2).1
    unfold Dfa.av
    unfold Dfa.cells at e1 ⊢
    simp only [Int.natCast_zero] at e1
    have hb : bodyA L a42 [.agg [.int .i64 d.vars, .int .i64 d.empty, .sl d.z d.next.length (d.next.map rwsV), .sl d.zf d.fin.length (bools d.fin)], .int .i64 8] [] =
        some (.agg [.int .i64 v2, .int .i64 em, AV.own false i1 0 n 1, .own false i2 0 n 1], G'.set 1 (.cells false false [.int .i64 v2, .int .i64 em, AV.own false i1 0 n 1, .own false i2 0 n 1])) := by
      have s1 : ∀ X : Blk, (G'.set 1 X)[1]? = some X := fun X => List.getElem?_set_self (by omega)
      rw [a42]
      simp (maxSteps := 30000000) (disch := first | assumption | omega | (simp only [List.length_cons, List.length_nil, List.length_append, List.length_set, List.length_replicate, List.length_map, List.length_range, List.length_take, List.length_drop, List.all_cons, List.all_nil, AV.isCell, Bool.and_self, Bool.and_true, bs_length, is64_length, w64_length, ints_length, ints_length, bools_len] <;> omega) | rfl | decide) only [bodyA_eq, List.length_cons, List.length_nil, Nat.zero_add, Nat.reduceAdd, Nat.reduceSub, pads, List.cons_append, List.nil_append, run_seq, run_region, runOps_cons, oper_none, ex_box, AV.cells, opv, List.getD_cons_zero, List.all_cons, AV.isCell, List.all_nil, Bool.and_self, ↓reduceIte, putK_to, List.set_cons_succ, List.set_cons_zero, opsK_some, runOps_nil, regK_some, seqK_normal, ex_mov, List.getD_cons_succ, ex_faddr, faddrA_ptr, valK_some, ex_load, rd_ptr, List.getElem?_cons_zero, rdK_cells, List.drop_succ_cons, List.drop_zero, List.take_succ_cons, List.take_zero, loadK_1, ex_len, lenA_sl, ex_mini, minA_int, e8, Nat.add_zero, ex_bin, bin_rem, hq, bin_add, wr64, hq2, ex_build, beq_self_eq_true, List.map_cons, List.map_nil, fillA, Nat.reduceLeDiff, and_self, splice, Option.map_some, ex_store, wr_ptr, List.getElem?_cons_succ, wrK_cells, List.drop_nil, List.append_nil, storeK_some, putK_no, bin_eql, hnn, decide_false, run_cond, condK_bool, Bool.false_eq_true, run_skip, hqe, hqe2, run_block, run_loop, a42l2c, e1, blockK_exit, g2, List.take_nil, loadK_n, e2, run_ret, bodyK_ret, results_1, res_cell, s1, cellK_some, mkv_n, retvK_some]
    rw [a42p]
    refine pbody_of hb ?_
    have z1 := f1.frame (G' := G'.set 1 (.cells false false [.int .i64 v2, .int .i64 em, AV.own false i1 0 n 1, .own false i2 0 n 1])) (by simp) (fun q hq b hb => by
      have := (f1 q hq).2 b hb
      rw [List.getElem?_set_ne (by omega)])
    have z2 := f2.frame (G' := G'.set 1 (.cells false false [.int .i64 v2, .int .i64 em, AV.own false i1 0 n 1, .own false i2 0 n 1])) (by simp) (fun q hq b hb => by
      have := (f2 q hq).2 b hb
      rw [List.getElem?_set_ne (by omega)])
    show ((([AV.int .i64 v2, .int .i64 em, AV.own false i1 0 n 1, .own false i2 0 n 1]).mapM (frz 5 _)).map AV.agg) = _
    simp only [List.mapM_cons, List.mapM_nil, frz_int, (z1 5 (by omega)).1, (z2 5 (by omega)).1, Option.pure_def, Option.bind_eq_bind, Option.bind_some, Option.map_some]
end Go.Abs.Det

/- Automata as data; Check of a valid one. -/
namespace Go.Abs.Det
open Go Go.Abs
set_option linter.unusedSimpArgs false
set_option linter.unusedVariables false

/-- deterministic automata as data -/
structure Da where
  vars : Int
  empty : Int
  next : List (List (List Int))
  fin : List Bool
def rowsD (l : List (List Int)) : AV := .sl false l.length (l.map rowT)
def Da.cells (D : Da) : List AV := [.int .i64 D.vars, .int .i64 D.empty, .sl false D.next.length (D.next.map rowsD), .sl false D.fin.length (bools D.fin)]
def Da.av (D : Da) : AV := .agg D.cells
theorem row_at {l : List (List Int)} {i : Nat} (h : i < l.length) : List.take 1 (List.drop i (l.map rowT)) = [rowT (l.getD i [])] := map_at1 _ _ h
theorem rows_at {l : List (List (List Int))} {i : Nat} (h : i < l.length) : List.take 1 (List.drop i (l.map rowsD)) = [rowsD (l.getD i [])] := map_at1 _ _ h

structure Va (D : Da) : Prop where
  v0 : 0 ≤ D.vars
  v3 : D.vars ≤ 3
  n0 : 0 < D.next.length
  n64 : D.next.length ≤ 64
  fl : D.fin.length = D.next.length
  e0 : 0 ≤ D.empty
  en : D.empty < D.next.length
  rl : ∀ rows ∈ D.next, rows.length = D.next.length
  cl : ∀ rows ∈ D.next, ∀ row ∈ rows, row.length = two D.vars
  ce : ∀ rows ∈ D.next, ∀ row ∈ rows, ∀ s ∈ row, 0 ≤ s ∧ s < D.next.length

theorem getD_in {α : Type} {l : List α} {i : Nat} {a : α} (h : i < l.length) : l.getD i a ∈ l := by
  rw [List.getD_eq_getElem?_getD, List.getElem?_eq_getElem h]
  exact List.getElem_mem _
theorem two_bd {v : Int} (h : v ≤ 3) : two v ≤ 8 ∧ 0 < two v := by
  have : v.toNat = 0 ∨ v.toNat = 1 ∨ v.toNat = 2 ∨ v.toNat = 3 := by omega
  unfold two
  rcases this with e | e | e | e <;> rw [e] <;> decide
theorem two_shl {v : Int} (h0 : 0 ≤ v) (h : v ≤ 3) : IntKind.i64.wrap (1 * 2 ^ min v.toNat IntKind.i64.bits) = (two v : Nat) := by
  have : v = 0 ∨ v = 1 ∨ v = 2 ∨ v = 3 := by omega
  rcases this with rfl | rfl | rfl | rfl <;> decide

theorem state52 {k : Nat} {s : Int} {n : Nat} {H : Heap} (h : H[k]? = some (.cells false false [.int .i64 (n : Nat)])) : L.icall (.func 52 [.ptr k 0]) [.int .i64 s] H = some (.bool (decide (0 ≤ s ∧ s < (n : Nat))), H) := by
  rw [a52i, a52]
  by_cases c : 0 ≤ s
  · by_cases c2 : s < (n : Nat)
    · rw [decide_eq_true ⟨c, c2⟩]
      simp (maxSteps := 30000000) (disch := first | assumption | omega | (simp only [List.length_cons, List.length_nil, List.length_append, List.length_set, List.length_replicate, List.length_map, List.length_range, List.length_take, List.length_drop, List.all_cons, List.all_nil, AV.isCell, Bool.and_self, Bool.and_true, bs_length, is64_length, w64_length, ints_length, ints_length, bools_len, List.length_map] <;> omega) | rfl | decide) only [List.cons_append, List.nil_append, bodyA_eq, List.length_cons, List.length_nil, Nat.zero_add, Nat.reduceAdd, Nat.reduceSub, pads, run_seq, run_region, runOps_cons, oper_none, ex_mov, opv, putK_to, List.set_cons_succ, List.set_cons_zero, opsK_some, runOps_nil, regK_some, seqK_normal, List.getD_cons_zero, ex_bin, List.getD_cons_succ, bin_geq, c, decide_true, valK_some, oper_guard, guardK_bool, ↓reduceIte, ex_load, rd_ptr, h, rdK_cells, List.drop_zero, List.take_succ_cons, List.take_nil, loadK_1, bin_lss, c2, ex_pick, pickA_bool, run_ret, bodyK_ret, results_1, res_tmp, retvK_some]
    · rw [decide_eq_false (by omega)]
      simp (maxSteps := 30000000) (disch := first | assumption | omega | (simp only [List.length_cons, List.length_nil, List.length_append, List.length_set, List.length_replicate, List.length_map, List.length_range, List.length_take, List.length_drop, List.all_cons, List.all_nil, AV.isCell, Bool.and_self, Bool.and_true, bs_length, is64_length, w64_length, ints_length, ints_length, bools_len, List.length_map] <;> omega) | rfl | decide) only [List.cons_append, List.nil_append, bodyA_eq, List.length_cons, List.length_nil, Nat.zero_add, Nat.reduceAdd, Nat.reduceSub, pads, run_seq, run_region, runOps_cons, oper_none, ex_mov, opv, putK_to, List.set_cons_succ, List.set_cons_zero, opsK_some, runOps_nil, regK_some, seqK_normal, List.getD_cons_zero, ex_bin, List.getD_cons_succ, bin_geq, c, decide_true, valK_some, oper_guard, guardK_bool, ↓reduceIte, ex_load, rd_ptr, h, rdK_cells, List.drop_zero, List.take_succ_cons, List.take_nil, loadK_1, bin_lss, c2, decide_false, ex_pick, pickA_bool, run_ret, bodyK_ret, results_1, res_tmp, retvK_some]
  · rw [decide_eq_false (by omega)]
    simp (maxSteps := 30000000) (disch := first | assumption | omega | (simp only [List.length_cons, List.length_nil, List.length_append, List.length_set, List.length_replicate, List.length_map, List.length_range, List.length_take, List.length_drop, List.all_cons, List.all_nil, AV.isCell, Bool.and_self, Bool.and_true, bs_length, is64_length, w64_length, ints_length, ints_length, bools_len, List.length_map] <;> omega) | rfl | decide) only [List.cons_append, List.nil_append, bodyA_eq, List.length_cons, List.length_nil, Nat.zero_add, Nat.reduceAdd, Nat.reduceSub, pads, run_seq, run_region, runOps_cons, oper_none, ex_mov, opv, putK_to, List.set_cons_succ, List.set_cons_zero, opsK_some, runOps_nil, regK_some, seqK_normal, List.getD_cons_zero, ex_bin, List.getD_cons_succ, bin_geq, c, decide_false, valK_some, oper_guard, guardK_bool, Bool.false_eq_true, ↓reduceIte, putA_to, ex_pick, pickA_bool, run_ret, bodyK_ret, results_1, res_tmp, retvK_some]
end Go.Abs.Det

/- Check of a valid automaton. -/
namespace Go.Abs.Det
open Go Go.Abs
set_option linter.unusedSimpArgs false
set_option linter.unusedVariables false

section
variable {D : Da} {H : Heap} {s43 s44 s45 s53 s54 s55 : AV}

theorem chk_row {row : List Int} (hl : row.length ≤ 8) (h1 : H[1]? = some (.cells false false [.int .i64 (D.next.length : Nat)])) (hs : ∀ s ∈ row, 0 ≤ s ∧ s < D.next.length) : ∀ e i, i + e = row.length →
    L.loop a14l0s a14l0 ⟨a14l0F (.ptr 0 0) (.int .i64 0) (.ptr 1 0) (.func 52 [.ptr 1 0]) s43 s44 s45 s53 s54 s55 (.sl false row.length (ints row)) (.int .i64 (row.length : Nat)) (.int .i64 (i : Nat)), H⟩ =
      some (.exit 5, ⟨a14l0F (.ptr 0 0) (.int .i64 0) (.ptr 1 0) (.func 52 [.ptr 1 0]) s43 s44 s45 s53 s54 s55 (.sl false row.length (ints row)) (.int .i64 (row.length : Nat)) (.int .i64 (row.length : Nat)), H⟩) := by
  intro e
  induction e with
  | zero =>
    intro i h
    obtain rfl : i = row.length := by omega
    rw [a14l0n]
    simp (maxSteps := 30000000) (disch := first | assumption | omega | (simp only [List.length_cons, List.length_nil, List.length_append, List.length_set, List.length_replicate, List.length_map, List.length_range, List.length_take, List.length_drop, List.all_cons, List.all_nil, AV.isCell, Bool.and_self, Bool.and_true, bs_length, is64_length, w64_length, ints_length, ints_length, bools_len, List.length_map] <;> omega) | rfl | decide) only [a14l0b, run_seq, run_region, runOps_cons, oper_none, ex_bin, opv, List.getD_cons_succ, List.getD_cons_zero, bin_lss, Int.lt_irrefl, decide_false, valK_some, putK_to, List.set_cons_succ, List.set_cons_zero, opsK_some, runOps_nil, regK_some, seqK_normal, run_cond, condK_bool, Bool.false_eq_true, ↓reduceIte, run_exit, seqK_exit, loopK_exit, a14l0c]
  | succ e ih =>
    intro i h
    have hlt : (i : Int) < (row.length : Nat) := by omega
    have ih' := ih (i + 1) (by omega)
    have hs' := hs _ (getD_in (a := 0) (show i < row.length by omega))
    have h52 := state52 (s := row.getD i 0) h1
    rw [decide_eq_true hs'] at h52
    rw [a14l0n]
    simp (maxSteps := 30000000) (disch := first | assumption | omega | (simp only [List.length_cons, List.length_nil, List.length_append, List.length_set, List.length_replicate, List.length_map, List.length_range, List.length_take, List.length_drop, List.all_cons, List.all_nil, AV.isCell, Bool.and_self, Bool.and_true, bs_length, is64_length, w64_length, ints_length, ints_length, bools_len, List.length_map] <;> omega) | rfl | decide) only [a14l0b, run_seq, run_region, runOps_cons, oper_none, ex_bin, opv, List.getD_cons_succ, List.getD_cons_zero, bin_lss, hlt, decide_true, valK_some, putK_to, List.set_cons_succ, List.set_cons_zero, opsK_some, runOps_nil, regK_some, seqK_normal, run_cond, condK_bool, ↓reduceIte, run_skip, run_block, ex_iaddr, iaddrA_sl, Int.toNat_natCast, Nat.mul_one, ex_load, rd_vptr, ints_drop, ints_take, ints_at0, getD_dropI, Nat.add_zero, loadK_1, ex_mov, ex_icall, List.map_cons, List.map_nil, h52, ex_un, un_not, Bool.not_true, Bool.false_eq_true, blockK_normal, bin_add, cadd1, wr64, loopK_normal, a14l0c, ih']

theorem chk_rows {rows : List (List Int)} (hv0 : 0 ≤ D.vars) (hv3 : D.vars ≤ 3) (hl : rows.length ≤ 64) (h0 : H[0]? = some (.cells false false D.cells)) (h1 : H[1]? = some (.cells false false [.int .i64 (D.next.length : Nat)]))
    (hc : ∀ row ∈ rows, row.length = two D.vars) (hs : ∀ row ∈ rows, ∀ s ∈ row, 0 ≤ s ∧ s < D.next.length) : ∀ e i, i + e = rows.length →
    L.loop a14l1s a14l1 ⟨a14l1F (.ptr 0 0) (.int .i64 0) (.ptr 1 0) (.func 52 [.ptr 1 0]) s43 s44 s45 (.sl false rows.length (rows.map rowT)) (.int .i64 (rows.length : Nat)) (.int .i64 (i : Nat)), H⟩ =
      some (.exit 3, ⟨a14l1F (.ptr 0 0) (.int .i64 0) (.ptr 1 0) (.func 52 [.ptr 1 0]) s43 s44 s45 (.sl false rows.length (rows.map rowT)) (.int .i64 (rows.length : Nat)) (.int .i64 (rows.length : Nat)), H⟩) := by
  intro e
  induction e with
  | zero =>
    intro i h
    obtain rfl : i = rows.length := by omega
    rw [a14l1n]
    simp (maxSteps := 30000000) (disch := first | assumption | omega | (simp only [List.length_cons, List.length_nil, List.length_append, List.length_set, List.length_replicate, List.length_map, List.length_range, List.length_take, List.length_drop, List.all_cons, List.all_nil, AV.isCell, Bool.and_self, Bool.and_true, bs_length, is64_length, w64_length, ints_length, ints_length, bools_len, List.length_map] <;> omega) | rfl | decide) only [a14l1b, run_seq, run_region, runOps_cons, oper_none, ex_bin, opv, List.getD_cons_succ, List.getD_cons_zero, bin_lss, Int.lt_irrefl, decide_false, valK_some, putK_to, List.set_cons_succ, List.set_cons_zero, opsK_some, runOps_nil, regK_some, seqK_normal, run_cond, condK_bool, Bool.false_eq_true, ↓reduceIte, run_exit, seqK_exit, loopK_exit, a14l1c]
  | succ e ih =>
    intro i h
    have hlt : (i : Int) < (rows.length : Nat) := by omega
    have ih' := ih (i + 1) (by omega)
    have hm := getD_in (a := ([] : List Int)) (show i < rows.length by omega)
    have hr := chk_row (D := D) (H := H) (s43 := s43) (s44 := s44) (s45 := s45) (s53 := .sl false rows.length (rows.map rowT)) (s54 := .int .i64 (rows.length : Nat)) (s55 := .int .i64 (i : Nat)) (by rw [hc _ hm]; exact (two_bd hv3).1) h1 (hs _ hm) (rows.getD i []).length 0 (by omega)
    have hcl := hc _ hm
    have hsh := two_shl hv0 hv3
    have hv : ¬ D.vars < 0 := by omega
    simp only [Int.natCast_zero] at hr
    unfold Da.cells at h0
    rw [a14l1n]
    rw [hcl] at hr
    simp (maxSteps := 30000000) (disch := first | assumption | omega | (simp only [List.length_cons, List.length_nil, List.length_append, List.length_set, List.length_replicate, List.length_map, List.length_range, List.length_take, List.length_drop, List.all_cons, List.all_nil, AV.isCell, Bool.and_self, Bool.and_true, bs_length, is64_length, w64_length, ints_length, ints_length, bools_len, List.length_map] <;> omega) | rfl | decide) only [a14l1b, run_seq, run_region, runOps_cons, oper_none, ex_bin, opv, List.getD_cons_succ, List.getD_cons_zero, bin_lss, hlt, decide_true, valK_some, putK_to, List.set_cons_succ, List.set_cons_zero, opsK_some, runOps_nil, regK_some, seqK_normal, run_cond, condK_bool, ↓reduceIte, run_skip, run_block, ex_iaddr, iaddrA_sl, Int.toNat_natCast, Nat.mul_one, ex_load, rd_vptr, row_at, rowT, hcl, loadK_1, ex_mov, ex_len, lenA_sl, ex_faddr, faddrA_ptr, Nat.add_zero, rd_ptr, h0, rdK_cells, List.drop_zero, List.take_succ_cons, List.take_zero, bin_shl, hsh, bin_neq, Bool.not_true, Bool.false_eq_true, run_loop, a14l0c, hr, blockK_exit, blockK_normal, bin_add, cadd1, wr64, loopK_normal, a14l1c, ih']

theorem chk_states (hV : Va D) (h0 : H[0]? = some (.cells false false D.cells)) (h1 : H[1]? = some (.cells false false [.int .i64 (D.next.length : Nat)])) : ∀ e i, i + e = D.next.length →
    L.loop a14l2s a14l2 ⟨a14l2F (.ptr 0 0) (.int .i64 0) (.ptr 1 0) (.func 52 [.ptr 1 0]) (.sl false D.next.length (D.next.map rowsD)) (.int .i64 (D.next.length : Nat)) (.int .i64 (i : Nat)), H⟩ =
      some (.exit 1, ⟨a14l2F (.ptr 0 0) (.int .i64 0) (.ptr 1 0) (.func 52 [.ptr 1 0]) (.sl false D.next.length (D.next.map rowsD)) (.int .i64 (D.next.length : Nat)) (.int .i64 (D.next.length : Nat)), H⟩) := by
  intro e
  induction e with
  | zero =>
    intro i h
    obtain rfl : i = D.next.length := by omega
    have hn := hV.n64
    rw [a14l2n]
    simp (maxSteps := 30000000) (disch := first | assumption | omega | (simp only [List.length_cons, List.length_nil, List.length_append, List.length_set, List.length_replicate, List.length_map, List.length_range, List.length_take, List.length_drop, List.all_cons, List.all_nil, AV.isCell, Bool.and_self, Bool.and_true, bs_length, is64_length, w64_length, ints_length, ints_length, bools_len, List.length_map] <;> omega) | rfl | decide) only [a14l2b, run_seq, run_region, runOps_cons, oper_none, ex_bin, opv, List.getD_cons_succ, List.getD_cons_zero, bin_lss, Int.lt_irrefl, decide_false, valK_some, putK_to, List.set_cons_succ, List.set_cons_zero, opsK_some, runOps_nil, regK_some, seqK_normal, run_cond, condK_bool, Bool.false_eq_true, ↓reduceIte, run_exit, seqK_exit, loopK_exit, a14l2c]
  | succ e ih =>
    intro i h
    have hlt : (i : Int) < (D.next.length : Nat) := by omega
    have ih' := ih (i + 1) (by omega)
    have hm := getD_in (a := ([] : List (List Int))) (show i < D.next.length by omega)
    have hrl := hV.rl _ hm
    have hn := hV.n64
    have hr := chk_rows (D := D) (H := H) (s43 := .sl false D.next.length (D.next.map rowsD)) (s44 := .int .i64 (D.next.length : Nat)) (s45 := .int .i64 (i : Nat)) hV.v0 hV.v3 (by omega) h0 h1 (hV.cl _ hm) (hV.ce _ hm) (D.next.getD i []).length 0 (by omega)
    simp only [Int.natCast_zero] at hr
    rw [hrl] at hr
    rw [a14l2n]
    simp (maxSteps := 30000000) (disch := first | assumption | omega | (simp only [List.length_cons, List.length_nil, List.length_append, List.length_set, List.length_replicate, List.length_map, List.length_range, List.length_take, List.length_drop, List.all_cons, List.all_nil, AV.isCell, Bool.and_self, Bool.and_true, bs_length, is64_length, w64_length, ints_length, ints_length, bools_len, List.length_map] <;> omega) | rfl | decide) only [a14l2b, run_seq, run_region, runOps_cons, oper_none, ex_bin, opv, List.getD_cons_succ, List.getD_cons_zero, bin_lss, hlt, decide_true, valK_some, putK_to, List.set_cons_succ, List.set_cons_zero, opsK_some, runOps_nil, regK_some, seqK_normal, run_cond, condK_bool, ↓reduceIte, run_skip, run_block, ex_iaddr, iaddrA_sl, Int.toNat_natCast, Nat.mul_one, ex_load, rd_vptr, rows_at, rowsD, hrl, loadK_1, ex_mov, ex_len, lenA_sl, rd_ptr, h1, rdK_cells, List.drop_zero, List.take_succ_cons, List.take_nil, bin_neq, Bool.not_true, Bool.false_eq_true, run_loop, a14l1c, hr, blockK_exit, blockK_normal, bin_add, cadd1, wr64, loopK_normal, a14l2c, ih']
end

theorem check_ok (D : Da) (hV : Va D) : L.pcall 14 [D.av] = some (.int .i64 0) := by
  have v0 := hV.v0
  have v3 := hV.v3
  have n0 := hV.n0
  have n64 := hV.n64
  have fl := hV.fl
  have hr := fun T => chk_states (H := .cells false false D.cells :: .cells false false [.int .i64 (D.next.length : Nat)] :: T) hV rfl rfl D.next.length 0 (by omega)
  have h52 := fun T => state52 (k := 1) (s := D.empty) (n := D.next.length) (H := .cells false false D.cells :: .cells false false [.int .i64 (D.next.length : Nat)] :: T) rfl
  have e0 := hV.e0
  have en := hV.en
  rw [decide_eq_true ⟨e0, en⟩] at h52
  have c1 : ¬ D.vars < 0 := by omega
  have c2 : ¬ (3 : Int) < D.vars := by omega
  have c3 : (((D.next.length : Nat) : Int) = 0) = False := eq_false (by omega)
  have c4 : ¬ (64 : Int) < (D.next.length : Nat) := by omega
  simp only [Int.natCast_zero] at hr
  unfold Da.cells at hr h52
  simp only [fl] at hr h52
  unfold Da.av Da.cells
  rw [a14p, a14, pbodyA_eq]
  simp (maxSteps := 30000000) (disch := first | assumption | omega | (simp only [List.length_cons, List.length_nil, List.length_append, List.length_set, List.length_replicate, List.length_map, List.length_range, List.length_take, List.length_drop, List.all_cons, List.all_nil, AV.isCell, Bool.and_self, Bool.and_true, bs_length, is64_length, w64_length, ints_length, ints_length, bools_len, List.length_map] <;> omega) | rfl | decide) only [fl, bodyA_eq, List.length_cons, List.length_nil, Nat.zero_add, Nat.reduceSub, pads, List.cons_append, List.nil_append, run_seq, run_region, runOps_cons, oper_none, ex_box, AV.cells, opv, List.getD_cons_zero, List.all_cons, AV.isCell, List.all_nil, Bool.and_self, ↓reduceIte, putK_to, List.set_cons_succ, List.set_cons_zero, opsK_some, ex_mov, runOps_nil, regK_some, seqK_normal, ex_faddr, List.getD_cons_succ, faddrA_ptr, valK_some, ex_load, rd_ptr, List.getElem?_cons_zero, rdK_cells, List.drop_succ_cons, List.drop_zero, List.take_succ_cons, List.take_zero, loadK_1, ex_len, lenA_sl, ex_store, wr_ptr, List.getElem?_cons_succ, wrK_cells, splice, List.drop_nil, List.append_nil, storeK_some, putK_no, ex_mkfunc, List.map_cons, List.map_nil, run_block, Nat.add_zero, ex_bin, bin_lss, c1, decide_false, oper_guard, guardK_bool, bin_gtr, c2, ex_pick, pickA_bool, Bool.false_eq_true, run_cond, condK_bool, List.take_nil, bin_eql, c3, c4, bin_neq, decide_true, Bool.not_true, ex_icall, h52, ex_un, un_not, run_skip, blockK_normal, run_loop, a14l2c, hr, blockK_exit, run_ret, bodyK_ret, results_1, res_tmp, retvK_some, pbodyK_some, frzN, frz_int]

/-- no states -/
theorem check_none (v e : Int) (z1 z2 : Bool) (fn : Nat) (fs : List AV) (v0 : 0 ≤ v) (v3 : v ≤ 3) : L.pcall 14 [.agg [.int .i64 v, .int .i64 e, .sl z1 0 [], .sl z2 fn fs]] = some (.int .i64 3) := by
  have c1 : ¬ v < 0 := by omega
  have c2 : ¬ (3 : Int) < v := by omega
  rw [a14p, a14, pbodyA_eq]
  simp (maxSteps := 30000000) (disch := first | assumption | omega | (simp only [List.length_cons, List.length_nil, List.length_append, List.length_set, List.length_replicate, List.length_map, List.length_range, List.length_take, List.length_drop, List.all_cons, List.all_nil, AV.isCell, Bool.and_self, Bool.and_true, bs_length, is64_length, w64_length, ints_length, ints_length, bools_len, List.length_map] <;> omega) | rfl | decide) only [bodyA_eq, List.length_cons, List.length_nil, Nat.zero_add, Nat.reduceSub, pads, List.cons_append, List.nil_append, run_seq, run_region, runOps_cons, oper_none, ex_box, AV.cells, opv, List.getD_cons_zero, List.all_cons, AV.isCell, List.all_nil, Bool.and_self, ↓reduceIte, putK_to, List.set_cons_succ, List.set_cons_zero, opsK_some, ex_mov, runOps_nil, regK_some, seqK_normal, ex_faddr, List.getD_cons_succ, faddrA_ptr, valK_some, ex_load, rd_ptr, List.getElem?_cons_zero, rdK_cells, List.drop_succ_cons, List.drop_zero, List.take_succ_cons, List.take_zero, loadK_1, ex_len, lenA_sl, castLit, ex_store, wr_ptr, List.getElem?_cons_succ, wrK_cells, splice, List.drop_nil, List.append_nil, storeK_some, putK_no, ex_mkfunc, List.map_cons, List.map_nil, run_block, Nat.add_zero, ex_bin, bin_lss, c1, decide_false, oper_guard, guardK_bool, bin_gtr, c2, ex_pick, pickA_bool, Bool.false_eq_true, run_cond, condK_bool, List.take_nil, bin_eql, decide_true, run_ret, blockK_ret, seqK_ret, bodyK_ret, results_1, res_tmp, retvK_some, pbodyK_some, frzN, frz_int]
end Go.Abs.Det

/- States of trees; run. -/
namespace Go.Abs.Det
open Go Go.Abs
set_option linter.unusedSimpArgs false
set_option linter.unusedVariables false

def nx (D : Da) (a b : Int) (x : Nat) : Int := ((D.next.getD a.toNat []).getD b.toNat []).getD x 0
/-- the state of a tree -/
def stB (D : Da) : BT → Int
  | .nil => D.empty
  | .node x l r => nx D (stB D l) (stB D r) x
/-- the states of the nodes -/
def stL (D : Da) : BT → List Int
  | .nil => []
  | .node x l r => stB D (.node x l r) :: (stL D l ++ stL D r)
theorem stL_len (D : Da) : ∀ T : BT, (stL D T).length = T.size
  | .nil => rfl
  | .node x l r => by rw [stL, List.length_cons, List.length_append, stL_len D l, stL_len D r, BT.size]; omega

theorem nx_bd {D : Da} (hV : Va D) {a b : Int} {x : Nat} (ha : 0 ≤ a ∧ a < D.next.length) (hb : 0 ≤ b ∧ b < D.next.length) (hx : x < two D.vars) : 0 ≤ nx D a b x ∧ nx D a b x < D.next.length := by
  have h1 := getD_in (a := ([] : List (List Int))) (show a.toNat < D.next.length by omega)
  have h2 := getD_in (a := ([] : List Int)) (show b.toNat < (D.next.getD a.toNat []).length by rw [hV.rl _ h1]; omega)
  have h3 := getD_in (a := (0 : Int)) (show x < ((D.next.getD a.toNat []).getD b.toNat []).length by rw [hV.cl _ h1 _ h2]; omega)
  exact hV.ce _ h1 _ h2 _ h3
theorem stB_bd {D : Da} (hV : Va D) : ∀ {T : BT}, T.labs (· < two D.vars) → 0 ≤ stB D T ∧ stB D T < D.next.length
  | .nil, _ => ⟨hV.e0, hV.en⟩
  | .node x l r, h => nx_bd hV (stB_bd hV h.2.1) (stB_bd hV h.2.2) h.1

theorem stB_root (D : Da) {T : BT} (h : 0 < T.size) : (stL D T).getD 0 0 = stB D T := by
  cases T with
  | nil => simp [BT.size] at h
  | node x l r => rfl

/-- a node's state, out of those of its children -/
theorem rec_at (D : Da) : ∀ (T : BT) (m : Nat) (S : Nat → Int), (∀ k, k < T.size → S (m + k) = (stL D T).getD k 0) → ∀ k, k < T.size →
    S (m + k) = nx D (if ((encT m T).getD k f0).l < 0 then D.empty else S ((encT m T).getD k f0).l.toNat) (if ((encT m T).getD k f0).r < 0 then D.empty else S ((encT m T).getD k f0).r.toNat) ((encT m T).getD k f0).x ∧
    (((encT m T).getD k f0).l = -1 ∨ (((m + k : Nat) : Int) < ((encT m T).getD k f0).l ∧ ((encT m T).getD k f0).l < ((m + T.size : Nat) : Int))) ∧
    (((encT m T).getD k f0).r = -1 ∨ (((m + k : Nat) : Int) < ((encT m T).getD k f0).r ∧ ((encT m T).getD k f0).r < ((m + T.size : Nat) : Int)))
  | .nil, m, S, hS, k, hk => by simp [BT.size] at hk
  | .node x l r, m, S, hS, k, hk => by
    have hsz : (BT.node x l r).size = 1 + (l.size + r.size) := rfl
    have hl1 := stL_len D l
    have hr1 := stL_len D r
    have el := encT_length l (m + 1)
    have er := encT_length r (m + 1 + l.size)
    have Sl : ∀ j, j < l.size → S (m + 1 + j) = (stL D l).getD j 0 := fun j hj => by
      rw [show m + 1 + j = m + (j + 1) by omega, hS (j + 1) (by omega), stL, List.getD_cons_succ]
      simp only [List.getD_eq_getElem?_getD]
      rw [List.getElem?_append_left (by omega)]
    have Sr : ∀ j, j < r.size → S (m + 1 + l.size + j) = (stL D r).getD j 0 := fun j hj => by
      rw [show m + 1 + l.size + j = m + (l.size + j + 1) by omega, hS (l.size + j + 1) (by omega), stL, List.getD_cons_succ]
      simp only [List.getD_eq_getElem?_getD]
      rw [List.getElem?_append_right (by omega), hl1]
      congr 2; omega
    cases k with
    | zero =>
      have e0 : (encT m (.node x l r)).getD 0 f0 = ⟨x, rootI (m + 1) l, rootI (m + 1 + l.size) r⟩ := rfl
      rw [e0, hS 0 (by omega)]
      have q : ∀ (T : BT) (j : Nat), (∀ i, i < T.size → S (j + i) = (stL D T).getD i 0) → (if rootI j T < 0 then D.empty else S (rootI j T).toNat) = stB D T := fun T j hj => by
        cases T with
        | nil => rfl
        | node y a b =>
          have : ¬ ((j : Nat) : Int) < 0 := by omega
          have hr : rootI j (.node y a b) = (j : Nat) := rfl
          rw [hr, if_neg this, Int.toNat_natCast]
          have := hj 0 (by simp [BT.size]; omega)
          rw [Nat.add_zero] at this
          rw [this]; rfl
      refine ⟨?_, ?_, ?_⟩
      · show (stL D (.node x l r)).getD 0 0 = nx D (if rootI (m + 1) l < 0 then _ else _) (if rootI (m + 1 + l.size) r < 0 then _ else _) x
        rw [q l (m + 1) Sl, q r (m + 1 + l.size) Sr]
        rfl
      · cases l with
        | nil => exact .inl rfl
        | node y a b => exact .inr ⟨by simp only [rootI]; omega, by simp only [rootI, BT.size]; omega⟩
      · cases r with
        | nil => exact .inl rfl
        | node y a b => exact .inr ⟨by simp only [rootI]; omega, by simp only [rootI, BT.size]; omega⟩
    | succ k =>
      by_cases hkl : k < l.size
      · have e0 : (encT m (.node x l r)).getD (k + 1) f0 = (encT (m + 1) l).getD k f0 := by
          rw [encT, List.getD_cons_succ]
          simp only [List.getD_eq_getElem?_getD]
          rw [List.getElem?_append_left (by omega)]
        obtain ⟨i1, i2, i3⟩ := rec_at D l (m + 1) S Sl k hkl
        rw [e0, show m + (k + 1) = m + 1 + k by omega]
        refine ⟨i1, ?_, ?_⟩
        · rcases i2 with q | q
          · exact .inl q
          · exact .inr ⟨q.1, by rw [hsz]; omega⟩
        · rcases i3 with q | q
          · exact .inl q
          · exact .inr ⟨q.1, by rw [hsz]; omega⟩
      · have e0 : (encT m (.node x l r)).getD (k + 1) f0 = (encT (m + 1 + l.size) r).getD (k - l.size) f0 := by
          rw [encT, List.getD_cons_succ]
          simp only [List.getD_eq_getElem?_getD]
          rw [List.getElem?_append_right (by omega), el]
        obtain ⟨i1, i2, i3⟩ := rec_at D r (m + 1 + l.size) S Sr (k - l.size) (by omega)
        have e1 : m + 1 + l.size + (k - l.size) = m + (k + 1) := by omega
        rw [e1] at i1 i2 i3
        rw [e0]
        refine ⟨i1, ?_, ?_⟩
        · rcases i2 with q | q
          · exact .inl q
          · exact .inr ⟨q.1, by rw [hsz]; omega⟩
        · rcases i3 with q | q
          · exact .inl q
          · exact .inr ⟨q.1, by rw [hsz]; omega⟩

theorem lfs_at0 {l : List Lf} {i : Nat} (h : i < l.length) : List.take 1 (List.drop (i * 3) (lfs l)) = [.int .u8 ((l.getD i f0).x : Nat)] := by
  rw [lfs_drop h]; rfl

theorem at100 {c : Int} {n : Nat} {cur : List Int} (hn : cur.length = n + 1) (hn2 : n < 1099511627776) (hc : c < 0 ∨ c < (n : Nat)) :
    L.pcall 100 [.int .i64 c, .vptr [.int .i64 (n : Nat)] 0, .vptr [.sl false (n + 1) (ints cur)] 0] = some (.int .i64 (if c < 0 then cur.getD n 0 else cur.getD c.toNat 0)) := by
  by_cases h : c < 0
  · rw [if_pos h, a100p, a100, pbodyA_eq]
    have hg : List.take 1 (List.drop n (ints cur)) = [.int .i64 (cur.getD n 0)] := map_at1 _ _ (by omega)
    simp (maxSteps := 30000000) (disch := first | assumption | omega | (simp only [List.length_cons, List.length_nil, List.length_append, List.length_set, List.length_replicate, List.length_map, List.length_range, List.length_take, List.length_drop, List.all_cons, List.all_nil, AV.isCell, Bool.and_self, Bool.and_true, bs_length, is64_length, w64_length, ints_length, ints_length, bools_len, List.length_map, lfs_length] <;> omega) | rfl | decide) only [bodyA_eq, List.length_cons, List.length_nil, Nat.zero_add, Nat.reduceAdd, Nat.reduceSub, pads, List.cons_append, List.nil_append, run_seq, run_region, runOps_cons, oper_none, ex_mov, opv, putK_to, List.set_cons_succ, List.set_cons_zero, opsK_some, runOps_nil, regK_some, seqK_normal, List.getD_cons_zero, ex_bin, List.getD_cons_succ, bin_lss, h, decide_true, valK_some, run_cond, condK_bool, ↓reduceIte, ex_load, rd_vptr, List.drop_zero, List.take_succ_cons, List.take_nil, loadK_1, ex_iaddr, iaddrA_sl, Int.toNat_natCast, Nat.mul_one, ints_drop, ints_take, ints_at0, getD_dropI, Nat.add_zero, run_ret, bodyK_ret, results_1, res_tmp, retvK_some, pbodyK_some, frzN, frz_int]
  · rw [if_neg h, a100p, a100, pbodyA_eq]
    have h0 : 0 ≤ c := by omega
    have hg : List.take 1 (List.drop c.toNat (ints cur)) = [.int .i64 (cur.getD c.toNat 0)] := map_at1 _ _ (by omega)
    simp (maxSteps := 30000000) (disch := first | assumption | omega | (simp only [List.length_cons, List.length_nil, List.length_append, List.length_set, List.length_replicate, List.length_map, List.length_range, List.length_take, List.length_drop, List.all_cons, List.all_nil, AV.isCell, Bool.and_self, Bool.and_true, bs_length, is64_length, w64_length, ints_length, ints_length, bools_len, List.length_map, lfs_length] <;> omega) | rfl | decide) only [bodyA_eq, List.length_cons, List.length_nil, Nat.zero_add, Nat.reduceAdd, Nat.reduceSub, pads, List.cons_append, List.nil_append, run_seq, run_region, runOps_cons, oper_none, ex_mov, opv, putK_to, List.set_cons_succ, List.set_cons_zero, opsK_some, runOps_nil, regK_some, seqK_normal, List.getD_cons_zero, ex_bin, List.getD_cons_succ, bin_lss, h, decide_false, valK_some, run_cond, condK_bool, Bool.false_eq_true, ↓reduceIte, run_skip, ex_load, rd_vptr, List.drop_zero, List.take_succ_cons, List.take_nil, loadK_1, ex_iaddr, iaddrA_sl, Nat.mul_one, ints_drop, ints_take, ints_at0, getD_dropI, Nat.add_zero, run_ret, bodyK_ret, results_1, res_tmp, retvK_some, pbodyK_some, frzN, frz_int]
end Go.Abs.Det

/- run; both; Run. -/
namespace Go.Abs.Det
open Go Go.Abs
set_option linter.unusedSimpArgs false
set_option linter.unusedVariables false

theorem drun_loop {D : Da} (hV : Va D) {z : Bool} {t : List Lf} {S : List Int} (ht : t.length ≤ 31) (hS : S.length = t.length + 1) (hx : ∀ e ∈ t, e.x < two D.vars)
    (hend : S.getD t.length 0 = D.empty) (hbd : ∀ s ∈ S, 0 ≤ s ∧ s < D.next.length)
    (hrec : ∀ k, k < t.length → S.getD k 0 = nx D (if (t.getD k f0).l < 0 then D.empty else S.getD (t.getD k f0).l.toNat 0) (if (t.getD k f0).r < 0 then D.empty else S.getD (t.getD k f0).r.toNat 0) (t.getD k f0).x ∧
      ((t.getD k f0).l = -1 ∨ ((k : Int) < (t.getD k f0).l ∧ (t.getD k f0).l < (t.length : Nat))) ∧ ((t.getD k f0).r = -1 ∨ ((k : Int) < (t.getD k f0).r ∧ (t.getD k f0).r < (t.length : Nat)))) :
    ∀ i, i ≤ t.length → L.loop a54l0s a54l0 ⟨a54l0F (tw z t) (.ptr 0 0) (.ptr 3 0) (.func 100 [.ptr 1 0, .ptr 3 0]) (.int .i64 ((i : Nat) - 1)), [.cells false false D.cells, .cells false false [.int .i64 (t.length : Nat)], .cells false false (ints (List.replicate i 0 ++ S.drop i)), .cells false false [.own false 2 0 (t.length + 1) 1]]⟩ =
      some (.exit 0, ⟨a54l0F (tw z t) (.ptr 0 0) (.ptr 3 0) (.func 100 [.ptr 1 0, .ptr 3 0]) (.int .i64 (-1)), [.cells false false D.cells, .cells false false [.int .i64 (t.length : Nat)], .cells false false (ints S), .cells false false [.own false 2 0 (t.length + 1) 1]]⟩) := by
  intro i
  induction i with
  | zero =>
    intro _
    rw [List.replicate_zero, List.nil_append, List.drop_zero]
    have e1 : (((0 : Nat) : Int) - 1) = -1 := by omega
    rw [e1, a54l0n]
    simp (maxSteps := 30000000) (disch := first | assumption | omega | (simp only [List.length_cons, List.length_nil, List.length_append, List.length_set, List.length_replicate, List.length_map, List.length_range, List.length_take, List.length_drop, List.all_cons, List.all_nil, AV.isCell, Bool.and_self, Bool.and_true, bs_length, is64_length, w64_length, ints_length, ints_length, bools_len, List.length_map, lfs_length] <;> omega) | rfl | decide) only [a54l0b, Int.reduceNeg, run_seq, run_region, runOps_cons, oper_none, ex_mov, opv, List.getD_cons_succ, List.getD_cons_zero, putK_to, List.set_cons_succ, List.set_cons_zero, opsK_some, ex_bin, bin_geq, Int.reduceLE, decide_false, valK_some, runOps_nil, regK_some, seqK_normal, run_cond, condK_bool, Bool.false_eq_true, ↓reduceIte, run_exit, seqK_exit, loopK_exit, a54l0c]
  | succ i ih =>
    intro hi
    have ih' := ih (by omega)
    obtain ⟨q1, q2, q3⟩ := hrec i (by omega)
    have e1 : (((i + 1 : Nat) : Int) - 1) = (i : Nat) := by omega
    have hlen : (List.replicate (i + 1) 0 ++ S.drop (i + 1)).length = t.length + 1 := by simp; omega
    have hc0 : ∀ k, i < k → k ≤ t.length → (List.replicate (i + 1) 0 ++ S.drop (i + 1)).getD k 0 = S.getD k 0 := fun k h1 h2 => by
      simp only [List.getD_eq_getElem?_getD]
      rw [List.getElem?_append_right (by simp; omega), List.getElem?_drop]
      congr 2; simp; omega
    have hset : ∀ y : Int, y = S.getD i 0 → (List.replicate (i + 1) 0 ++ S.drop (i + 1)).set i y = List.replicate i 0 ++ S.drop i := fun y hy => by
      subst hy
      apply List.ext_getElem?
      intro k
      rw [List.getElem?_set]
      by_cases c : i = k
      · subst c
        rw [if_pos rfl, if_pos (by rw [hlen]; omega), List.getElem?_append_right (by simp), List.getElem?_drop]
        have : i + (i - (List.replicate i (0 : Int)).length) = i := by simp
        rw [this, List.getD_eq_getElem?_getD, List.getElem?_eq_getElem (by omega)]
        rfl
      · rw [if_neg c]
        rcases Nat.lt_or_ge k i with h | h
        · rw [List.getElem?_append_left (by simp; omega), List.getElem?_append_left (by simp; omega), List.getElem?_replicate, List.getElem?_replicate, if_pos (by omega), if_pos h]
        · rw [List.getElem?_append_right (by simp; omega), List.getElem?_append_right (by simp; omega), List.getElem?_drop, List.getElem?_drop]
          congr 1; simp; omega
    generalize hcur : List.replicate (i + 1) 0 ++ S.drop (i + 1) = cur at *
    have hxi := hx _ (getF_mem (show i < t.length by omega))
    generalize hL : (if (t.getD i f0).l < 0 then D.empty else S.getD (t.getD i f0).l.toNat 0) = sl at *
    generalize hR : (if (t.getD i f0).r < 0 then D.empty else S.getD (t.getD i f0).r.toNat 0) = sr at *
    have hin : ∀ k, k ≤ t.length → 0 ≤ S.getD k 0 ∧ S.getD k 0 < D.next.length := fun k hk => hbd _ (getD_in (by omega))
    have hl1 : L.pcall 100 [.int .i64 (t.getD i f0).l, .vptr [.int .i64 (t.length : Nat)] 0, .vptr [.sl false (t.length + 1) (ints cur)] 0] = some (.int .i64 sl) ∧ 0 ≤ sl ∧ sl < D.next.length := by
      have h := at100 (c := (t.getD i f0).l) hlen (by omega) (by omega)
      rw [h, ← hL]
      by_cases c : (t.getD i f0).l < 0
      · rw [if_pos c, if_pos c, hc0 _ (by omega) (Nat.le_refl _), hend]
        exact ⟨rfl, hV.e0, hV.en⟩
      · rw [if_neg c, if_neg c, hc0 _ (by omega) (by omega)]
        exact ⟨rfl, hin _ (by omega)⟩
    have hr1 : L.pcall 100 [.int .i64 (t.getD i f0).r, .vptr [.int .i64 (t.length : Nat)] 0, .vptr [.sl false (t.length + 1) (ints cur)] 0] = some (.int .i64 sr) ∧ 0 ≤ sr ∧ sr < D.next.length := by
      have h := at100 (c := (t.getD i f0).r) hlen (by omega) (by omega)
      rw [h, ← hR]
      by_cases c : (t.getD i f0).r < 0
      · rw [if_pos c, if_pos c, hc0 _ (by omega) (Nat.le_refl _), hend]
        exact ⟨rfl, hV.e0, hV.en⟩
      · rw [if_neg c, if_neg c, hc0 _ (by omega) (by omega)]
        exact ⟨rfl, hin _ (by omega)⟩
    obtain ⟨hl1, hl2⟩ := hl1
    obtain ⟨hr1, hr2⟩ := hr1
    have k1 := getD_in (a := ([] : List (List Int))) (show sl.toNat < D.next.length by omega)
    have l1 := hV.rl _ k1
    have k2 := getD_in (a := ([] : List Int)) (show sr.toNat < (D.next.getD sl.toNat []).length by omega)
    have l2 := hV.cl _ k1 _ k2
    have hst := hset _ q1.symm
    unfold nx at hst
    have n64 := hV.n64
    have htk : List.take (t.length + 1) cur = cur := List.take_of_length_le (by omega)
    have hgc : List.take 1 (List.drop (t.getD i f0).x (ints ((D.next.getD sl.toNat []).getD sr.toNat []))) = [.int .i64 (((D.next.getD sl.toNat []).getD sr.toNat []).getD (t.getD i f0).x 0)] := map_at1 _ _ (by omega)
    have hge : (0 : Int) ≤ (i : Nat) := by omega
    have hx8 : two D.vars ≤ 8 := (two_bd hV.v3).1
    clear hrec hset hc0 hin hbd hx
    unfold Da.cells at ih' ⊢
    rw [e1, a54l0n]
    simp (maxSteps := 30000000) (disch := first | assumption | omega | (simp only [List.length_cons, List.length_nil, List.length_append, List.length_set, List.length_replicate, List.length_map, List.length_range, List.length_take, List.length_drop, List.all_cons, List.all_nil, AV.isCell, Bool.and_self, Bool.and_true, bs_length, is64_length, w64_length, ints_length, ints_length, bools_len, List.length_map, lfs_length] <;> omega) | rfl | decide) only [a54l0b, run_seq, run_region, runOps_cons, oper_none, ex_mov, opv, List.getD_cons_succ, List.getD_cons_zero, putK_to, List.set_cons_succ, List.set_cons_zero, opsK_some, ex_bin, bin_geq, hge, decide_true, valK_some, runOps_nil, regK_some, seqK_normal, run_cond, condK_bool, ↓reduceIte, run_skip, run_block, run_draw, List.take_succ_cons, List.take_zero, runFree_cons, foper_none, fe_load, ex_load, rd_ptr, List.getElem?_cons_succ, List.getElem?_cons_zero, rdK_cells, List.drop_zero, List.take_nil, loadK_1, fstK_some, fputK_to, freeK_some, fe_mov, fe_faddr, ex_faddr, faddrA_ptr, Nat.zero_add, List.drop_succ_cons, fe_iaddr, ex_iaddr, iaddrA_sl, Int.toNat_natCast, faddrA_vptr, rd_vptr, lfs_at1, fe_fcall, List.map_cons, List.map_nil, fquietK_func, List.cons_append, List.nil_append, pcallA_eq, frzN, List.mapM_cons, frz_int, frz_ptr, ptrK_cells, List.mapM_nil, Option.pure_def, Option.bind_eq_bind, Option.bind_some, Option.map_some, frz_own, frzK_cells, Nat.mul_one, ints_take, htk, frz_ints, slK_some, argK_some, hl1, retK_some, scal, scal1, quietK_some, quietCall, List.flatMap_cons, bor_int, bor_ptr, borPK_cells, List.flatMap_nil, List.append_nil, bor_own, borK_cells, bor_ints, List.all_cons, frozenB_eq, List.all_nil, Bool.and_true, Bool.true_or, rows_at, rowsD, l1, lfs_at2, hr1, row_at, rowT, l2, Nat.add_zero, lfs_at0, runFree_nil, drawK_some, adopt, adoptVal, ints_drop, ints_at0, getD_dropI, iaddrA_own, ex_store, AV.cells, List.length_cons, List.length_nil, wr_ptr, wrK_cells, splice, List.append_assoc, ints_put1, hst, storeK_some, putK_no, blockK_normal, bin_sub, wr64, loopK_normal, a54l0c, ih', Int.reduceNeg]

theorem run54 {D : Da} (hV : Va D) (z : Bool) {T : BT} (ht : T.size ≤ 31) (hx : T.labs (· < two D.vars)) : L.pcall 54 [D.av, tw z (encT 0 T)] = some (.sl false (T.size + 1) (ints (stL D T ++ [D.empty]))) := by
  have hl := encT_length T 0
  have hsl := stL_len D T
  have hS : ∀ k, k < T.size → (stL D T ++ [D.empty]).getD k 0 = (stL D T).getD k 0 := fun k hk => by
    simp only [List.getD_eq_getElem?_getD]
    rw [List.getElem?_append_left (by omega)]
  have hE : (stL D T ++ [D.empty]).getD (encT 0 T).length 0 = D.empty := by
    simp only [List.getD_eq_getElem?_getD]
    rw [List.getElem?_append_right (by omega), hl, hsl, Nat.sub_self]; rfl
  have hbd : ∀ s ∈ stL D T ++ [D.empty], 0 ≤ s ∧ s < D.next.length := by
    have key : ∀ T : BT, T.labs (· < two D.vars) → ∀ s ∈ stL D T, 0 ≤ s ∧ s < D.next.length := by
      intro T
      induction T with
      | nil => intro _ s hs; cases hs
      | node x l r ihl ihr =>
        intro h s hs
        rw [stL, List.mem_cons, List.mem_append] at hs
        rcases hs with rfl | hs | hs
        · exact stB_bd hV h
        · exact ihl h.2.1 s hs
        · exact ihr h.2.2 s hs
    intro s hs
    rcases List.mem_append.1 hs with q | q
    · exact key T hx s q
    · rw [List.mem_singleton.1 q]; exact ⟨hV.e0, hV.en⟩
  have hrec := fun k (hk : k < (encT 0 T).length) => by
    have := rec_at D T 0 (fun k => (stL D T ++ [D.empty]).getD k 0) (fun k hk => by rw [Nat.zero_add]; exact hS k hk) k (by omega)
    simp only [Nat.zero_add] at this
    rw [← hl] at this
    exact this
  have h := drun_loop hV (z := z) (t := encT 0 T) (S := stL D T ++ [D.empty]) (by omega) (by simp; omega) (fun e he => (enc_labs T 0).2 hx e he) hE hbd hrec (encT 0 T).length (Nat.le_refl _)
  have hcur : List.replicate (encT 0 T).length 0 ++ (stL D T ++ [D.empty]).drop (encT 0 T).length = (List.replicate (T.size + 1) (0 : Int)).set T.size D.empty := by
    rw [List.drop_append_of_le_length (by omega), List.drop_of_length_le (by omega), hl, List.replicate_succ', List.set_append_right _ _ (by simp)]
    simp
  rw [hcur] at h
  have hfl : (stL D T ++ [D.empty]).length = T.size + 1 := by simp [hsl]
  generalize stL D T ++ [D.empty] = S at *
  have htk : List.take (T.size + 1) S = S := List.take_of_length_le (by omega)
  clear hrec hbd hE hS hcur
  unfold tw at h ⊢
  simp only [hl] at h ⊢
  generalize lfs (encT 0 T) = tl at *
  generalize T.size = n at *
  unfold Da.av
  unfold Da.cells at h ⊢
  rw [a54p, a54, pbodyA_eq]
  simp (maxSteps := 30000000) (disch := first | assumption | omega | (simp only [List.length_cons, List.length_nil, List.length_append, List.length_set, List.length_replicate, List.length_map, List.length_range, List.length_take, List.length_drop, List.all_cons, List.all_nil, AV.isCell, Bool.and_self, Bool.and_true, bs_length, is64_length, w64_length, ints_length, ints_length, bools_len, List.length_map, lfs_length] <;> omega) | rfl | decide) only [bodyA_eq, List.length_cons, List.length_nil, Nat.zero_add, Nat.reduceAdd, Nat.reduceSub, pads, List.cons_append, List.nil_append, run_seq, run_region, runOps_cons, oper_none, ex_box, AV.cells, opv, List.getD_cons_zero, List.all_cons, AV.isCell, List.all_nil, Bool.and_self, ↓reduceIte, putK_to, List.set_cons_succ, List.set_cons_zero, opsK_some, ex_mov, runOps_nil, regK_some, seqK_normal, List.getD_cons_succ, ex_len, lenA_sl, valK_some, ex_store, wr_ptr, List.getElem?_cons_succ, List.getElem?_cons_zero, wrK_cells, splice, List.take_zero, List.drop_succ_cons, List.drop_nil, List.append_nil, storeK_some, putK_no, ex_load, rd_ptr, rdK_cells, List.drop_zero, List.take_succ_cons, List.take_nil, loadK_1, ex_bin, bin_add, cadd1, wr64, ex_mkslice, mksK_int, Int.toNat_natCast, repz_ints, newA_own, ex_faddr, faddrA_ptr, ex_iaddr, iaddrA_own, Nat.mul_one, ints_take, ints_drop, List.append_assoc, ints_put1, ex_mkfunc, List.map_cons, List.map_nil, bin_sub, run_block, run_loop, a54l0c, h, Int.reduceNeg, blockK_exit, run_ret, bodyK_ret, results_1, res_tmp, retvK_some, pbodyK_some, frzN, frz_own, frzK_cells, htk, frz_ints, slK_some]

theorem both53 (D : Da) (z : Bool) (t : List Lf) (e1 e2 : Int) (h1 : L.pcall 14 [D.av] = some (.int .i64 e1)) (h2 : e1 = 0 → L.pcall 99 [tw z t, .int .i64 D.vars] = some (.int .i64 e2)) : L.pcall 53 [D.av, tw z t] = some (.int .i64 (if e1 = 0 then e2 else e1)) := by
  unfold Da.av Da.cells at h1 ⊢
  by_cases c : e1 = 0
  · have h2' := h2 c
    subst c
    rw [if_pos rfl, a53p, a53, pbodyA_eq]
    simp (maxSteps := 30000000) (disch := first | assumption | omega | (simp only [List.length_cons, List.length_nil, List.length_append, List.length_set, List.length_replicate, List.length_map, List.length_range, List.length_take, List.length_drop, List.all_cons, List.all_nil, AV.isCell, Bool.and_self, Bool.and_true, bs_length, is64_length, w64_length, ints_length, ints_length, bools_len, List.length_map, lfs_length] <;> omega) | rfl | decide) only [bodyA_eq, List.length_cons, List.length_nil, Nat.zero_add, Nat.reduceAdd, Nat.reduceSub, pads, List.cons_append, List.nil_append, run_seq, run_region, runOps_cons, oper_none, ex_box, AV.cells, opv, List.getD_cons_zero, List.all_cons, AV.isCell, List.all_nil, Bool.and_self, ↓reduceIte, putK_to, List.set_cons_succ, List.set_cons_zero, opsK_some, ex_mov, runOps_nil, regK_some, seqK_normal, ex_load, List.getD_cons_succ, rd_ptr, List.getElem?_cons_zero, rdK_cells, List.drop_zero, List.take_succ_cons, List.take_nil, loadK_n, valK_some, ex_call, List.map_cons, List.map_nil, pcallA_eq, frzN, List.mapM_cons, frz_agg, frz_int, frz_sl, List.mapM_nil, Option.pure_def, Option.bind_eq_bind, Option.bind_some, Option.map_some, argK_some, h1, retK_some, scal, scal1, ex_bin, bin_neq, decide_true, Bool.not_true, run_cond, condK_bool, Bool.false_eq_true, run_skip, ex_faddr, faddrA_ptr, Nat.add_zero, List.take_zero, loadK_1, h2', run_ret, bodyK_ret, results_1, res_tmp, retvK_some, pbodyK_some]
  · rw [if_neg c, a53p, a53, pbodyA_eq]
    simp (maxSteps := 30000000) (disch := first | assumption | omega | (simp only [List.length_cons, List.length_nil, List.length_append, List.length_set, List.length_replicate, List.length_map, List.length_range, List.length_take, List.length_drop, List.all_cons, List.all_nil, AV.isCell, Bool.and_self, Bool.and_true, bs_length, is64_length, w64_length, ints_length, ints_length, bools_len, List.length_map, lfs_length] <;> omega) | rfl | decide) only [bodyA_eq, List.length_cons, List.length_nil, Nat.zero_add, Nat.reduceAdd, Nat.reduceSub, pads, List.cons_append, List.nil_append, run_seq, run_region, runOps_cons, oper_none, ex_box, AV.cells, opv, List.getD_cons_zero, List.all_cons, AV.isCell, List.all_nil, Bool.and_self, ↓reduceIte, putK_to, List.set_cons_succ, List.set_cons_zero, opsK_some, ex_mov, runOps_nil, regK_some, seqK_normal, ex_load, List.getD_cons_succ, rd_ptr, List.getElem?_cons_zero, rdK_cells, List.drop_zero, List.take_succ_cons, List.take_nil, loadK_n, valK_some, ex_call, List.map_cons, List.map_nil, pcallA_eq, frzN, List.mapM_cons, frz_agg, frz_int, frz_sl, List.mapM_nil, Option.pure_def, Option.bind_eq_bind, Option.bind_some, Option.map_some, argK_some, h1, retK_some, scal, scal1, ex_bin, bin_neq, c, decide_false, Bool.not_false, run_cond, condK_bool, run_ret, seqK_ret, bodyK_ret, results_1, res_tmp, retvK_some, pbodyK_some]
end Go.Abs.Det

/- Run; EqualInts; CopyInts; the part of the law's automaton as data. -/
namespace Go.Abs.Det
open Go Go.Abs
set_option linter.unusedSimpArgs false
set_option linter.unusedVariables false

theorem both_valid {D : Da} (hV : Va D) (z : Bool) (t : List Lf) (hl : t.length < 1099511627776) (hx : ∀ e ∈ t, e.x < 256) : L.pcall 53 [D.av, tw z t] = some (.int .i64 (tchkE t D.vars.toNat)) := by
  have v0 := hV.v0
  have v3 := hV.v3
  have h := both53 D z t 0 (tchkE t D.vars.toNat) (check_ok D hV) (fun _ => by
    have := tcheck_eq z t D.vars.toNat (by omega) hl hx
    rwa [Int.toNat_of_nonneg v0] at this)
  exact h

theorem lab_two {v : Int} {x : Nat} (h0 : 0 ≤ v) : x >>> v.toNat = 0 ↔ x < two v := by
  unfold two
  rw [Nat.shiftRight_eq_div_pow]
  exact Nat.div_eq_zero_iff_lt (Nat.two_pow_pos _)

/-- what a tree without error is -/
theorem tchk_zero {t : List Lf} {v : Int} (h0 : 0 ≤ v) : tchkE t v.toNat = 0 ↔ ∃ T, t = encT 0 T ∧ T.size ≤ 31 ∧ T.labs (· < two v) := by
  unfold tchkE
  constructor
  · intro h
    split at h
    · omega
    split at h
    case isFalse => omega
    rename_i h1
    split at h
    case isFalse => omega
    rename_i h2
    obtain ⟨T, hT⟩ := formedB_iff.1 h2
    obtain ⟨e1, e2⟩ := formed_enc hT
    refine ⟨T, e1, e2, (enc_labs T 0).1 fun e he => (lab_two h0).1 (labOk_iff.1 h1 e (e1 ▸ he))⟩
  · rintro ⟨T, rfl, h2, h3⟩
    rw [if_neg (by rw [encT_length]; omega), if_pos (labOk_iff.2 fun e he => (lab_two h0).2 ((enc_labs T 0).2 h3 e he)), if_pos (formedB_iff.2 ⟨T, enc_formed h2⟩)]

theorem run16_ok {D : Da} (hV : Va D) (z : Bool) {T : BT} (ht : T.size ≤ 31) (hx : T.labs (· < two D.vars)) : L.pcall 16 [D.av, tw z (encT 0 T)] = some (.tup [.sl false T.size (ints (stL D T)), .int .i64 0]) := by
  have hl := encT_length T 0
  have h1 := both_valid hV z (encT 0 T) (by omega) (fun e he => by have := (enc_labs T 0).2 hx e he; have := (two_bd hV.v3).1; omega)
  rw [(tchk_zero hV.v0).2 ⟨T, rfl, ht, hx⟩] at h1
  have h2 := run54 hV z ht hx
  have hsl := stL_len D T
  have htk : List.take T.size (stL D T ++ [D.empty]) = stL D T := by rw [List.take_append_of_le_length (by omega), List.take_of_length_le (by omega)]
  unfold tw at h1 h2 ⊢
  simp only [hl] at h1 h2 ⊢
  unfold Da.av at h1 h2 ⊢
  unfold Da.cells at h1 h2 ⊢
  rw [a16p, a16, pbodyA_eq]
  simp (maxSteps := 30000000) (disch := first | assumption | omega | (simp only [List.length_cons, List.length_nil, List.length_append, List.length_set, List.length_replicate, List.length_map, List.length_range, List.length_take, List.length_drop, List.all_cons, List.all_nil, AV.isCell, Bool.and_self, Bool.and_true, bs_length, is64_length, w64_length, ints_length, ints_length, bools_len, List.length_map, lfs_length] <;> omega) | rfl | decide) only [bodyA_eq, List.length_cons, List.length_nil, Nat.zero_add, Nat.reduceAdd, Nat.reduceSub, pads, List.cons_append, List.nil_append, run_seq, run_region, runOps_cons, oper_none, ex_box, AV.cells, opv, List.getD_cons_zero, List.all_cons, AV.isCell, List.all_nil, Bool.and_self, ↓reduceIte, putK_to, List.set_cons_succ, List.set_cons_zero, opsK_some, ex_mov, runOps_nil, regK_some, seqK_normal, ex_load, List.getD_cons_succ, rd_ptr, List.getElem?_cons_zero, rdK_cells, List.drop_zero, List.take_succ_cons, List.take_nil, loadK_n, valK_some, ex_call, List.map_cons, List.map_nil, pcallA_eq, frzN, List.mapM_cons, frz_agg, frz_int, frz_sl, List.mapM_nil, Option.pure_def, Option.bind_eq_bind, Option.bind_some, Option.map_some, argK_some, h1, retK_some, scal, scal1, ex_bin, bin_neq, decide_true, Bool.not_true, run_cond, condK_bool, Bool.false_eq_true, run_skip, h2, fzIds, List.flatMap_cons, bor_agg, bor_int, bor_sl, List.flatMap_nil, List.append_nil, List.foldl_nil, ex_len, lenA_sl, ex_slice, Option.map_none, sliceA_sl, bounds_nsm, Int.toNat_natCast, cutK_sl, Nat.sub_zero, Nat.mul_one, ints_take, htk, run_ret, bodyK_ret, results_2, resL_cons, res_tmp, resK_some, resL_nil, retvK_some, pbodyK_some, frz_tup]

theorem run16_err {D : Da} (hV : Va D) (z : Bool) (t : List Lf) (hl : t.length < 1099511627776) (hx : ∀ e ∈ t, e.x < 256) (he : tchkE t D.vars.toNat ≠ 0) : L.pcall 16 [D.av, tw z t] = some (.tup [.sl true 0 [], .int .i64 (tchkE t D.vars.toNat)]) := by
  have h1 := both_valid hV z t hl hx
  generalize tchkE t D.vars.toNat = e at *
  unfold Da.av at h1 ⊢
  unfold Da.cells at h1 ⊢
  rw [a16p, a16, pbodyA_eq]
  simp (maxSteps := 30000000) (disch := first | assumption | omega | (simp only [List.length_cons, List.length_nil, List.length_append, List.length_set, List.length_replicate, List.length_map, List.length_range, List.length_take, List.length_drop, List.all_cons, List.all_nil, AV.isCell, Bool.and_self, Bool.and_true, bs_length, is64_length, w64_length, ints_length, ints_length, bools_len, List.length_map, lfs_length] <;> omega) | rfl | decide) only [bodyA_eq, List.length_cons, List.length_nil, Nat.zero_add, Nat.reduceAdd, Nat.reduceSub, pads, List.cons_append, List.nil_append, run_seq, run_region, runOps_cons, oper_none, ex_box, AV.cells, opv, List.getD_cons_zero, List.all_cons, AV.isCell, List.all_nil, Bool.and_self, ↓reduceIte, putK_to, List.set_cons_succ, List.set_cons_zero, opsK_some, ex_mov, runOps_nil, regK_some, seqK_normal, ex_load, List.getD_cons_succ, rd_ptr, List.getElem?_cons_zero, rdK_cells, List.drop_zero, List.take_succ_cons, List.take_nil, loadK_n, valK_some, ex_call, List.map_cons, List.map_nil, pcallA_eq, frzN, List.mapM_cons, frz_agg, frz_int, frz_sl, List.mapM_nil, Option.pure_def, Option.bind_eq_bind, Option.bind_some, Option.map_some, argK_some, h1, retK_some, scal, scal1, ex_bin, bin_neq, he, decide_false, Bool.not_false, run_cond, condK_bool, run_ret, seqK_ret, bodyK_ret, results_2, resL_cons, res_tmp, resK_some, resL_nil, retvK_some, pbodyK_some, frz_tup]

/-- no states -/
theorem run16_none (v e : Int) (z1 z2 : Bool) (z : Bool) (t : List Lf) (v0 : 0 ≤ v) (v3 : v ≤ 3) : L.pcall 16 [.agg [.int .i64 v, .int .i64 e, .sl z1 0 [], .sl z2 0 []], tw z t] = some (.tup [.sl true 0 [], .int .i64 3]) := by
  have h := check_none v e z1 z2 0 [] v0 v3
  have h53 : L.pcall 53 [.agg [.int .i64 v, .int .i64 e, .sl z1 0 [], .sl z2 0 []], tw z t] = some (.int .i64 3) := by
    rw [a53p, a53, pbodyA_eq]
    simp (maxSteps := 30000000) (disch := first | assumption | omega | (simp only [List.length_cons, List.length_nil, List.length_append, List.length_set, List.length_replicate, List.length_map, List.length_range, List.length_take, List.length_drop, List.all_cons, List.all_nil, AV.isCell, Bool.and_self, Bool.and_true, bs_length, is64_length, w64_length, ints_length, ints_length, bools_len, List.length_map, lfs_length] <;> omega) | rfl | decide) only [bodyA_eq, List.length_cons, List.length_nil, Nat.zero_add, Nat.reduceAdd, Nat.reduceSub, pads, List.cons_append, List.nil_append, run_seq, run_region, runOps_cons, oper_none, ex_box, AV.cells, opv, List.getD_cons_zero, List.all_cons, AV.isCell, List.all_nil, Bool.and_self, ↓reduceIte, putK_to, List.set_cons_succ, List.set_cons_zero, opsK_some, ex_mov, runOps_nil, regK_some, seqK_normal, ex_load, List.getD_cons_succ, rd_ptr, List.getElem?_cons_zero, rdK_cells, List.drop_zero, List.take_succ_cons, List.take_nil, loadK_n, valK_some, ex_call, List.map_cons, List.map_nil, pcallA_eq, frzN, List.mapM_cons, frz_agg, frz_int, frz_sl, List.mapM_nil, Option.pure_def, Option.bind_eq_bind, Option.bind_some, Option.map_some, argK_some, h, retK_some, scal, scal1, ex_bin, bin_neq, Int.reduceEq, decide_false, Bool.not_false, run_cond, condK_bool, run_ret, seqK_ret, bodyK_ret, results_1, res_tmp, retvK_some, pbodyK_some]
  rw [a16p, a16, pbodyA_eq]
  simp (maxSteps := 30000000) (disch := first | assumption | omega | (simp only [List.length_cons, List.length_nil, List.length_append, List.length_set, List.length_replicate, List.length_map, List.length_range, List.length_take, List.length_drop, List.all_cons, List.all_nil, AV.isCell, Bool.and_self, Bool.and_true, bs_length, is64_length, w64_length, ints_length, ints_length, bools_len, List.length_map, lfs_length] <;> omega) | rfl | decide) only [bodyA_eq, List.length_cons, List.length_nil, Nat.zero_add, Nat.reduceAdd, Nat.reduceSub, pads, List.cons_append, List.nil_append, run_seq, run_region, runOps_cons, oper_none, ex_box, AV.cells, opv, List.getD_cons_zero, List.all_cons, AV.isCell, List.all_nil, Bool.and_self, ↓reduceIte, putK_to, List.set_cons_succ, List.set_cons_zero, opsK_some, ex_mov, runOps_nil, regK_some, seqK_normal, ex_load, List.getD_cons_succ, rd_ptr, List.getElem?_cons_zero, rdK_cells, List.drop_zero, List.take_succ_cons, List.take_nil, loadK_n, valK_some, ex_call, List.map_cons, List.map_nil, pcallA_eq, frzN, List.mapM_cons, frz_agg, frz_int, frz_sl, List.mapM_nil, Option.pure_def, Option.bind_eq_bind, Option.bind_some, Option.map_some, argK_some, h53, retK_some, scal, scal1, ex_bin, bin_neq, Int.reduceEq, decide_false, Bool.not_false, run_cond, condK_bool, run_ret, seqK_ret, bodyK_ret, results_2, resL_cons, res_tmp, resK_some, resL_nil, retvK_some, pbodyK_some, frz_tup]

theorem ints_same_loop {l : List Int} {z z' : Bool} {s4 : AV} {H : Heap} (hl : l.length < 1099511627776) : ∀ d i, i + d = l.length →
    L.loop a20l0s a20l0 ⟨a20l0F (iw z l) (iw z' l) s4 (.int .i64 (i : Nat)), H⟩ = some (.exit 0, ⟨a20l0F (iw z l) (iw z' l) s4 (.int .i64 (l.length : Nat)), H⟩)
  | 0, i, h => by
    obtain rfl : i = l.length := by omega
    rw [a20l0n]
    simp (maxSteps := 30000000) (disch := first | assumption | omega | (simp only [List.length_cons, List.length_nil, List.length_append, List.length_set, List.length_replicate, List.length_map, List.length_range, List.length_take, List.length_drop, List.all_cons, List.all_nil, AV.isCell, Bool.and_self, Bool.and_true, bs_length, is64_length, w64_length, ints_length, ints_length, bools_len, List.length_map, lfs_length] <;> omega) | rfl | decide) only [a20l0b, run_seq, run_region, runOps_cons, oper_none, ex_mov, opv, List.getD_cons_succ, List.getD_cons_zero, putK_to, List.set_cons_succ, List.set_cons_zero, opsK_some, ex_len, lenA_sl, valK_some, ex_bin, bin_lss, Int.lt_irrefl, decide_false, runOps_nil, regK_some, seqK_normal, run_cond, condK_bool, Bool.false_eq_true, ↓reduceIte, run_exit, seqK_exit, loopK_exit, a20l0c]
  | d + 1, i, h => by
    have hlt : (i : Int) < (l.length : Nat) := by omega
    have ih := ints_same_loop (z := z) (z' := z') (s4 := s4) (H := H) hl d (i + 1) (by omega)
    rw [a20l0n]
    simp (maxSteps := 30000000) (disch := first | assumption | omega | (simp only [List.length_cons, List.length_nil, List.length_append, List.length_set, List.length_replicate, List.length_map, List.length_range, List.length_take, List.length_drop, List.all_cons, List.all_nil, AV.isCell, Bool.and_self, Bool.and_true, bs_length, is64_length, w64_length, ints_length, ints_length, bools_len, List.length_map, lfs_length] <;> omega) | rfl | decide) only [a20l0b, run_seq, run_region, runOps_cons, oper_none, ex_mov, opv, List.getD_cons_succ, List.getD_cons_zero, putK_to, List.set_cons_succ, List.set_cons_zero, opsK_some, ex_len, lenA_sl, valK_some, ex_bin, bin_lss, hlt, decide_true, runOps_nil, regK_some, seqK_normal, run_cond, condK_bool, ↓reduceIte, run_skip, run_block, run_draw, List.take_succ_cons, List.take_zero, runFree_cons, foper_none, fe_mov, fstK_some, fputK_to, freeK_some, fe_iaddr, ex_iaddr, iaddrA_sl, Int.toNat_natCast, Nat.mul_one, fe_load, ex_load, rd_vptr, ints_drop, ints_take, ints_at0, getD_dropI, Nat.add_zero, loadK_1, runFree_nil, drawK_some, List.drop_succ_cons, List.drop_zero, adopt, adoptVal, bin_neq, Bool.not_true, Bool.false_eq_true, blockK_normal, bin_add, cadd1, wr64, loopK_normal, a20l0c, ih]
theorem ints_same (z z' : Bool) (l : List Int) (hl : l.length < 1099511627776) : L.pcall 20 [iw z l, iw z' l] = some (.bool true) := by
  have ih := fun s4 => ints_same_loop (z := z) (z' := z') (s4 := s4) (H := []) hl l.length 0 (by omega)
  simp only [Int.natCast_zero] at ih
  rw [a20p, a20, pbodyA_eq]
  simp (maxSteps := 30000000) (disch := first | assumption | omega | (simp only [List.length_cons, List.length_nil, List.length_append, List.length_set, List.length_replicate, List.length_map, List.length_range, List.length_take, List.length_drop, List.all_cons, List.all_nil, AV.isCell, Bool.and_self, Bool.and_true, bs_length, is64_length, w64_length, ints_length, ints_length, bools_len, List.length_map, lfs_length] <;> omega) | rfl | decide) only [bodyA_eq, List.length_cons, List.length_nil, Nat.zero_add, Nat.reduceAdd, Nat.reduceSub, pads, List.cons_append, List.nil_append, run_seq, run_region, runOps_cons, oper_none, ex_mov, opv, putK_to, List.set_cons_succ, List.set_cons_zero, opsK_some, runOps_nil, regK_some, seqK_normal, List.getD_cons_zero, ex_len, List.getD_cons_succ, lenA_sl, valK_some, ex_bin, bin_neq, decide_true, Bool.not_true, run_cond, condK_bool, Bool.false_eq_true, ↓reduceIte, run_skip, run_block, run_loop, a20l0c, ih, blockK_exit, run_ret, bodyK_ret, results_1, res_tmp, retvK_some, pbodyK_some, frzN, frz_bool]
/-- the part of an automaton, as data -/
def subD (d : Dfa) : Da := ⟨nrm d.vars 3, nrm d.empty (min 8 d.next.length : Nat), (List.range (min 8 d.next.length)).map fun l => (List.range (min 8 d.next.length)).map fun r => rowS d (min 8 d.next.length) (two (nrm d.vars 3)) l r, fiS d (min 8 d.next.length)⟩
theorem subT_some {d : Dfa} (h : d.next.length ≠ 0) : subT d = (subD d).av := by
  unfold subT
  rw [if_neg h]
  unfold Da.av Da.cells subD stT rowsT
  simp only [List.length_map, List.length_range, List.map_map, fiS_len]
  congr 5
  apply List.map_congr_left
  intro k _
  simp only [Function.comp, rowsD, List.length_map, List.length_range, List.map_map]
  rfl
theorem cellS_bd {d : Dfa} {n l r x : Nat} (hn : 0 < n) : 0 ≤ cellS d n l r x ∧ cellS d n l r x < (n : Nat) := by
  unfold cellS
  split
  · exact nrm_bd _ (by omega)
  · omega
theorem subD_valid {d : Dfa} (h : d.next.length ≠ 0) : Va (subD d) := by
  have h1 := nrm_bd d.vars (n := 3) (by omega)
  have h2 := nrm_bd d.empty (n := ((min 8 d.next.length : Nat) : Int)) (by omega)
  have hlen : (subD d).next.length = min 8 d.next.length := by simp [subD]
  refine ⟨h1.1, by show nrm d.vars 3 ≤ 3; omega, by rw [hlen]; omega, by rw [hlen]; omega, by rw [hlen]; exact fiS_len d _, h2.1, by rw [hlen]; exact h2.2, fun rows hr => ?_, fun rows hr row hw => ?_, fun rows hr row hw s hs => ?_⟩
  · obtain ⟨l, _, rfl⟩ := List.mem_map.1 hr
    rw [hlen]; simp
  · obtain ⟨l, _, rfl⟩ := List.mem_map.1 hr
    obtain ⟨r, _, rfl⟩ := List.mem_map.1 hw
    exact rowS_len ..
  · obtain ⟨l, _, rfl⟩ := List.mem_map.1 hr
    obtain ⟨r, _, rfl⟩ := List.mem_map.1 hw
    obtain ⟨x, _, rfl⟩ := List.mem_map.1 hs
    rw [hlen]
    exact cellS_bd (by omega)
end Go.Abs.Det
