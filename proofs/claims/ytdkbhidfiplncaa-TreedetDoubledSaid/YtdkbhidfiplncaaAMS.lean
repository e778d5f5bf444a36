/- Plain law: the state of a tree in the renumbered automaton. -/
import Derived.Test.YtdkbhidfiplncaaAMR
namespace Go.Abs.Det
open Go Go.Abs
set_option linter.unusedSimpArgs false
set_option linter.unusedVariables false

theorem ren_st {D : Da} (hV : Va D) : ∀ T : BT, T.labs (· < two D.vars) → 0 ≤ stB (renD D) T ∧ (stB (renD D) T).toNat < (renO D).length ∧ (renO D).getD (stB (renD D) T).toNat 0 = stB D T
  | .nil, _ => ⟨Int.le_refl _, renO_pos D, renO_zero D⟩
  | .node x l r, h => by
    obtain ⟨a1, a2, a3⟩ := ren_st hV l h.2.1
    obtain ⟨b1, b2, b3⟩ := ren_st hV r h.2.2
    obtain ⟨k, k1, k2, k3⟩ := renD_nx hV a2 b2 h.1
    have e1 : stB (renD D) (.node x l r) = nx (renD D) (stB (renD D) l) (stB (renD D) r) x := rfl
    rw [Int.toNat_of_nonneg a1, Int.toNat_of_nonneg b1] at k1
    rw [e1, k1]
    refine ⟨by omega, by rw [Int.toNat_natCast]; exact k2, ?_⟩
    rw [Int.toNat_natCast, k3, a3, b3]
    rfl
theorem ren_acc {D : Da} (hV : Va D) {T : BT} (h : T.labs (· < two D.vars)) : (renD D).fin.getD (stB (renD D) T).toNat false = D.fin.getD (stB D T).toNat false := by
  obtain ⟨_, a2, a3⟩ := ren_st hV T h
  rw [renD_fin a2, a3]
theorem ren_same {D : Da} (hV : Va D) {T T' : BT} (h : T.labs (· < two D.vars)) (h' : T'.labs (· < two D.vars)) : stB (renD D) T = stB (renD D) T' ↔ stB D T = stB D T' := by
  obtain ⟨a1, a2, a3⟩ := ren_st hV T h
  obtain ⟨b1, b2, b3⟩ := ren_st hV T' h'
  have nd := (renumber56 hV).1.nd
  constructor
  · intro e; rw [← a3, ← b3, e]
  · intro e
    rw [← a3, ← b3] at e
    have hp := List.pairwise_iff_getElem.1 nd
    simp only [List.getD_eq_getElem?_getD, List.getElem?_eq_getElem a2, List.getElem?_eq_getElem b2, Option.getD_some] at e
    rcases Nat.lt_trichotomy (stB (renD D) T).toNat (stB (renD D) T').toNat with q | q | q
    · exact absurd e (hp _ _ a2 b2 q)
    · omega
    · exact absurd e.symm (hp _ _ b2 a2 q)
end Go.Abs.Det

/- Plain law: what the steps keep, the whole numbering keeps; every state is reached. -/
namespace Go.Abs.Det
open Go Go.Abs
set_option linter.unusedSimpArgs false
set_option linter.unusedVariables false

section
variable {D : Da} {P : List Int → Prop}
theorem gx_keep (hP : ∀ o l r x, l < o.length → r < o.length → x < two D.vars → P o → P (ordS D o l r x)) (l r : Nat) : ∀ e x o, x + e ≤ two D.vars → l < o.length → r < o.length → P o → P (goX nob (ordS D) l r x e o)
  | 0, _, o, _, _, _, h => h
  | e + 1, x, o, hx, hl, hr, h => by
    rw [gx_succ]
    have := pre_len (ord_pre (D := D) o l r x)
    exact gx_keep hP l r e (x + 1) _ (by omega) (by omega) (by omega) (hP o l r x hl hr (by omega) h)
theorem gp_keep (hP : ∀ o l r x, l < o.length → r < o.length → x < two D.vars → P o → P (ordS D o l r x)) {j k : Nat} {o : List Int} (hj : j < o.length) (hk : k < o.length) (h : P o) : P (goP nob (ordS D) (two D.vars) j k o) := by
  rw [gp_eq]
  have := pre_len (gx_pre (D := D) j k (two D.vars) 0 o)
  exact gx_keep hP k j _ 0 _ (by omega) (by omega) (by omega) (gx_keep hP j k _ 0 o (by omega) hj hk h)
theorem gj_keep (hP : ∀ o l r x, l < o.length → r < o.length → x < two D.vars → P o → P (ordS D o l r x)) (k : Nat) : ∀ e j o, j + e = k + 1 → k < o.length → P o → P (goJ nob (ordS D) (two D.vars) k j e o)
  | 0, _, o, _, _, h => h
  | e + 1, j, o, hj, hk, h => by
    rw [gj_succ]
    have := pre_len (gp_pre (D := D) (two D.vars) j k o)
    exact gj_keep hP k e (j + 1) _ (by omega) (by omega) (gp_keep hP (by omega) hk h)
theorem gk_keep (hP : ∀ o l r x, l < o.length → r < o.length → x < two D.vars → P o → P (ordS D o l r x)) : ∀ e k o, P o → P (goK List.length nob (ordS D) (two D.vars) k e o)
  | 0, _, o, h => h
  | e + 1, k, o, h => by
    by_cases c : k < o.length
    · have he : goK List.length nob (ordS D) (two D.vars) k (e + 1) o = goK List.length nob (ordS D) (two D.vars) (k + 1) e (goJ nob (ordS D) (two D.vars) k 0 (k + 1) o) := by
        show (if k < o.length then _ else _) = _
        rw [if_pos c]; rfl
      rw [he]
      exact gk_keep hP e (k + 1) _ (gj_keep hP k (k + 1) 0 o (by omega) c h)
    · have he : goK List.length nob (ordS D) (two D.vars) k (e + 1) o = o := by
        show (if k < o.length then _ else _) = _
        rw [if_neg c]
      rw [he]; exact h
end

theorem reached {D : Da} : ∀ s ∈ renO D, ∃ T : BT, T.labs (· < two D.vars) ∧ stB D T = s := by
  refine gk_keep (P := fun o => ∀ s ∈ o, ∃ T : BT, T.labs (· < two D.vars) ∧ stB D T = s) (fun o l r x hl hr hx h s hs => ?_) D.next.length 0 [D.empty] (fun s hs => ⟨.nil, trivial, by rw [List.mem_singleton] at hs; exact hs.symm⟩)
  unfold ordS at hs
  split at hs
  · exact h s hs
  · rcases List.mem_append.1 hs with q | q
    · exact h s q
    · rw [List.mem_singleton] at q
      obtain ⟨A, a1, a2⟩ := h _ (getD_in (a := (0 : Int)) hl)
      obtain ⟨B, b1, b2⟩ := h _ (getD_in (a := (0 : Int)) hr)
      refine ⟨.node x A B, ⟨hx, a1, b1⟩, ?_⟩
      subst q
      show nx D (stB D A) (stB D B) x = _
      rw [a2, b2]
end Go.Abs.Det

/- Plain law: two automata that tell the same trees apart are numbered alike. -/
namespace Go.Abs.Det
open Go Go.Abs
set_option linter.unusedSimpArgs false
set_option linter.unusedVariables false

/-- they tell the same trees apart -/
def SameT (D1 D2 : Da) : Prop := D1.vars = D2.vars ∧ ∀ T T' : BT, T.labs (· < two D1.vars) → T'.labs (· < two D1.vars) → (stB D1 T = stB D1 T' ↔ stB D2 T = stB D2 T')
/-- two lists of states in step: of the same trees -/
def Step (D1 D2 : Da) (o1 o2 : List Int) : Prop := ∃ Ts : List BT, (∀ T ∈ Ts, T.labs (· < two D1.vars)) ∧ o1 = Ts.map (stB D1) ∧ o2 = Ts.map (stB D2)
theorem Step.len {D1 D2 : Da} {o1 o2 : List Int} (h : Step D1 D2 o1 o2) : o1.length = o2.length := by
  obtain ⟨Ts, _, rfl, rfl⟩ := h; simp
theorem map_st {D : Da} {Ts : List BT} {i : Nat} (h : i < Ts.length) : (Ts.map (stB D)).getD i 0 = stB D Ts[i] := by
  rw [List.getD_eq_getElem?_getD]; simp [h]
theorem step_ord {D1 D2 : Da} (hS : SameT D1 D2) {o1 o2 : List Int} {l r x : Nat} (h : Step D1 D2 o1 o2) (hl : l < o1.length) (hr : r < o1.length) (hx : x < two D1.vars) : Step D1 D2 (ordS D1 o1 l r x) (ordS D2 o2 l r x) := by
  obtain ⟨Ts, h0, rfl, rfl⟩ := h
  rw [List.length_map] at hl hr
  have e1 : ∀ D : Da, nx D ((Ts.map (stB D)).getD l 0) ((Ts.map (stB D)).getD r 0) x = stB D (.node x Ts[l] Ts[r]) := fun D => by rw [map_st hl, map_st hr]; rfl
  have hlab : (BT.node x Ts[l] Ts[r]).labs (· < two D1.vars) := ⟨hx, h0 _ (List.getElem_mem _), h0 _ (List.getElem_mem _)⟩
  unfold ordS
  rw [e1, e1]
  generalize BT.node x Ts[l] Ts[r] = T at *
  have hiff : stB D1 T ∈ Ts.map (stB D1) ↔ stB D2 T ∈ Ts.map (stB D2) := by
    simp only [List.mem_map]
    constructor
    · rintro ⟨A, a1, a2⟩; exact ⟨A, a1, (hS.2 A T (h0 A a1) hlab).1 a2⟩
    · rintro ⟨A, a1, a2⟩; exact ⟨A, a1, (hS.2 A T (h0 A a1) hlab).2 a2⟩
  by_cases c : stB D1 T ∈ Ts.map (stB D1)
  · rw [if_pos c, if_pos (hiff.1 c)]
    exact ⟨Ts, h0, rfl, rfl⟩
  · rw [if_neg c, if_neg (fun q => c (hiff.2 q))]
    exact ⟨Ts ++ [T], fun A hA => (List.mem_append.1 hA).elim (h0 A) (fun q => by rw [List.mem_singleton.1 q]; exact hlab), by simp, by simp⟩
end Go.Abs.Det

/- Plain law: the numberings go in step. -/
namespace Go.Abs.Det
open Go Go.Abs
set_option linter.unusedSimpArgs false
set_option linter.unusedVariables false

section
variable {D1 D2 : Da}
theorem gx_step (hS : SameT D1 D2) (l r : Nat) : ∀ e x o1 o2, x + e ≤ two D1.vars → l < o1.length → r < o1.length → Step D1 D2 o1 o2 → Step D1 D2 (goX nob (ordS D1) l r x e o1) (goX nob (ordS D2) l r x e o2)
  | 0, _, o1, o2, _, _, _, h => h
  | e + 1, x, o1, o2, hx, hl, hr, h => by
    rw [gx_succ, gx_succ]
    have := pre_len (ord_pre (D := D1) o1 l r x)
    exact gx_step hS l r e (x + 1) _ _ (by omega) (by omega) (by omega) (step_ord hS h hl hr (by omega))
theorem gp_step (hS : SameT D1 D2) {j k : Nat} {o1 o2 : List Int} (hj : j < o1.length) (hk : k < o1.length) (h : Step D1 D2 o1 o2) : Step D1 D2 (goP nob (ordS D1) (two D1.vars) j k o1) (goP nob (ordS D2) (two D1.vars) j k o2) := by
  rw [gp_eq, gp_eq]
  have := pre_len (gx_pre (D := D1) j k (two D1.vars) 0 o1)
  exact gx_step hS k j _ 0 _ _ (by omega) (by omega) (by omega) (gx_step hS j k _ 0 o1 o2 (by omega) hj hk h)
theorem gj_step (hS : SameT D1 D2) (k : Nat) : ∀ e j o1 o2, j + e = k + 1 → k < o1.length → Step D1 D2 o1 o2 → Step D1 D2 (goJ nob (ordS D1) (two D1.vars) k j e o1) (goJ nob (ordS D2) (two D1.vars) k j e o2)
  | 0, _, o1, o2, _, _, h => h
  | e + 1, j, o1, o2, hj, hk, h => by
    rw [gj_succ, gj_succ]
    have := pre_len (gp_pre (D := D1) (two D1.vars) j k o1)
    exact gj_step hS k e (j + 1) _ _ (by omega) (by omega) (gp_step hS (by omega) hk h)
theorem gk_step (hS : SameT D1 D2) : ∀ e k o1 o2, Step D1 D2 o1 o2 → Step D1 D2 (goK List.length nob (ordS D1) (two D1.vars) k e o1) (goK List.length nob (ordS D2) (two D1.vars) k e o2)
  | 0, _, o1, o2, h => h
  | e + 1, k, o1, o2, h => by
    have hl := h.len
    by_cases c : k < o1.length
    · have e1 : ∀ (D : Da) (n : Nat) (o : List Int), k < o.length → goK List.length nob (ordS D) n k (e + 1) o = goK List.length nob (ordS D) n (k + 1) e (goJ nob (ordS D) n k 0 (k + 1) o) := fun D n o c => by
        show (if k < o.length then _ else _) = _
        rw [if_pos c]; rfl
      rw [e1 D1 _ _ c, e1 D2 _ _ (by omega)]
      exact gk_step hS e (k + 1) _ _ (gj_step hS k (k + 1) 0 o1 o2 (by omega) c h)
    · have e1 : ∀ (D : Da) (n : Nat) (o : List Int), ¬ k < o.length → goK List.length nob (ordS D) n k (e + 1) o = o := fun D n o c => by
        show (if k < o.length then _ else _) = _
        rw [if_neg c]
      rw [e1 D1 _ _ c, e1 D2 _ _ (by omega)]
      exact h
/-- more rounds than enough change nothing -/
theorem gk_more {D : Da} {n : Nat} : ∀ e k o, (goK List.length nob (ordS D) n k e o).length ≤ k + e → goK List.length nob (ordS D) n k (e + 1) o = goK List.length nob (ordS D) n k e o
  | 0, k, o, h => by
    have h' : o.length ≤ k := h
    show (if k < o.length then _ else _) = _
    rw [if_neg (by omega)]; rfl
  | e + 1, k, o, h => by
    by_cases c : k < o.length
    · have e1 : ∀ e, goK List.length nob (ordS D) n k (e + 1) o = goK List.length nob (ordS D) n (k + 1) e (goJ nob (ordS D) n k 0 (k + 1) o) := fun e => by
        show (if k < o.length then _ else _) = _
        rw [if_pos c]; rfl
      rw [e1] at h
      rw [e1, e1 e]
      exact gk_more e (k + 1) _ (by omega)
    · have e1 : ∀ e, goK List.length nob (ordS D) n k (e + 1) o = o := fun e => by
        show (if k < o.length then _ else _) = _
        rw [if_neg c]
      rw [e1, e1]
end
end Go.Abs.Det

/- Plain law: two automata that tell the same trees apart and accept the same are renumbered alike. -/
namespace Go.Abs.Det
open Go Go.Abs
set_option linter.unusedSimpArgs false
set_option linter.unusedVariables false

theorem gk_fuel {D : Da} {n : Nat} {o : List Int} {N : Nat} (h : (goK List.length nob (ordS D) n 0 N o).length ≤ N) : ∀ d, goK List.length nob (ordS D) n 0 (N + d) o = goK List.length nob (ordS D) n 0 N o
  | 0 => rfl
  | d + 1 => by
    rw [show N + (d + 1) = N + d + 1 by omega, gk_more _ _ _ (by rw [gk_fuel h d]; omega), gk_fuel h d]
theorem ren_step {D1 D2 : Da} (hV1 : Va D1) (hV2 : Va D2) (hS : SameT D1 D2) : Step D1 D2 (renO D1) (renO D2) := by
  have h1 := gk_fuel (D := D1) (n := two D1.vars) (o := [D1.empty]) (N := D1.next.length) (renumber56 hV1).1.le D2.next.length
  have h2 := gk_fuel (D := D2) (n := two D2.vars) (o := [D2.empty]) (N := D2.next.length) (renumber56 hV2).1.le D1.next.length
  have h3 := gk_step hS (D1.next.length + D2.next.length) 0 [D1.empty] [D2.empty] ⟨[.nil], by simp [BT.labs], rfl, rfl⟩
  have h2' : goK List.length nob (ordS D2) (two D1.vars) 0 (D1.next.length + D2.next.length) [D2.empty] = renO D2 := by rw [hS.1, Nat.add_comm]; exact h2
  rw [h1, h2'] at h3
  exact h3
end Go.Abs.Det

/- Plain law: renumbered alike. -/
namespace Go.Abs.Det
open Go Go.Abs
set_option linter.unusedSimpArgs false
set_option linter.unusedVariables false

theorem range_congr {α : Type} {f g : Nat → α} {n : Nat} (h : ∀ i, i < n → f i = g i) : (List.range n).map f = (List.range n).map g :=
  List.map_congr_left fun i hi => h i (List.mem_range.1 hi)
theorem numO_eq {o : List Int} (hn : o.Nodup) {i : Nat} (hi : i < o.length) {s : Int} (h : o.getD i 0 = s) : numO o s = i := by
  have hm : s ∈ o := by rw [← h]; exact getD_in hi
  obtain ⟨h1, h2⟩ := numO_get hm
  have hp := List.pairwise_iff_getElem.1 hn
  rw [← h] at h2
  simp only [List.getD_eq_getElem?_getD, List.getElem?_eq_getElem hi] at h2
  rcases Nat.lt_trichotomy (numO o s) i with q | q | q
  · rw [← h] at h1 q
    simp only [List.getD_eq_getElem?_getD, List.getElem?_eq_getElem hi] at h1 q
    rw [List.getElem?_eq_getElem h1] at h2
    exact absurd (by simpa using h2) (hp _ _ h1 hi q)
  · exact q
  · rw [← h] at h1 q
    simp only [List.getD_eq_getElem?_getD, List.getElem?_eq_getElem hi] at h1 q
    rw [List.getElem?_eq_getElem h1] at h2
    exact absurd (by simpa using h2.symm) (hp _ _ hi h1 q)
end Go.Abs.Det

/- Plain law: two automata that tell the same trees apart and accept the same trees have one renumbering. -/
namespace Go.Abs.Det
open Go Go.Abs
set_option linter.unusedSimpArgs false
set_option linter.unusedVariables false

/-- is a tree accepted -/
def accB (D : Da) (T : BT) : Bool := D.fin.getD (stB D T).toNat false
theorem next_congr {v : Int} {f g : Nat → Nat → Nat → Int} {n : Nat} (h : ∀ l r x, l < n → r < n → x < two v → f l r x = g l r x) : nextB v f n n = nextB v g n n := by
  unfold nextB
  refine range_congr fun l hl => ?_
  unfold rowsB
  refine range_congr fun r hr => ?_
  unfold rvL
  exact range_congr fun x hx => h l r x hl hr hx
theorem fin_congr {f g : Nat → Bool} {n : Nat} (h : ∀ l, l < n → f l = g l) : finB f n = finB g n := range_congr h

theorem ren_eq {D1 D2 : Da} (hV1 : Va D1) (hV2 : Va D2) (hS : SameT D1 D2) (hA : ∀ T : BT, T.labs (· < two D1.vars) → accB D1 T = accB D2 T) : renD D1 = renD D2 := by
  have hst := ren_step hV1 hV2 hS
  have hlen := hst.len
  have ok1 := (renumber56 hV1).1
  have ok2 := (renumber56 hV2).1
  obtain ⟨Ts, h0, e1, e2⟩ := hst
  have hl1 : (renO D1).length = Ts.length := by rw [e1, List.length_map]
  have g1 : ∀ i (h : i < Ts.length), (renO D1).getD i 0 = stB D1 Ts[i] := fun i h => by rw [e1, map_st h]
  have g2 : ∀ i (h : i < Ts.length), (renO D2).getD i 0 = stB D2 Ts[i] := fun i h => by rw [e2, map_st h]
  have hn : nextB D1.vars (renN D1) (renO D1).length (renO D1).length = nextB D2.vars (renN D2) (renO D2).length (renO D2).length := by
    rw [← hlen, ← hS.1]
    refine next_congr fun l r x hl hr hx => ?_
    have hl' : l < Ts.length := by omega
    have hr' : r < Ts.length := by omega
    have hlab : (BT.node x Ts[l] Ts[r]).labs (· < two D1.vars) := ⟨hx, h0 _ (List.getElem_mem _), h0 _ (List.getElem_mem _)⟩
    have hm := renO_done ok1.le hl hr hx
    unfold renN
    rw [g1 l hl', g1 r hr', g2 l hl', g2 r hr']
    rw [g1 l hl', g1 r hr'] at hm
    rw [show nx D1 (stB D1 Ts[l]) (stB D1 Ts[r]) x = stB D1 (.node x Ts[l] Ts[r]) from rfl] at hm ⊢
    rw [show nx D2 (stB D2 Ts[l]) (stB D2 Ts[r]) x = stB D2 (.node x Ts[l] Ts[r]) from rfl]
    generalize BT.node x Ts[l] Ts[r] = T at *
    rw [e1, List.mem_map] at hm
    obtain ⟨A, hA1, hA2⟩ := hm
    obtain ⟨k, hk, hkA⟩ := List.getElem_of_mem hA1
    subst hkA
    rw [numO_eq ok1.nd (i := k) (by omega) (by rw [g1 k hk]; exact hA2), numO_eq ok2.nd (i := k) (by omega) (by rw [g2 k hk]; exact (hS.2 _ _ (h0 _ hA1) hlab).1 hA2)]
  have hf : finB (renF D1) (renO D1).length = finB (renF D2) (renO D2).length := by
    rw [← hlen]
    refine fin_congr fun l hl => ?_
    have hl' : l < Ts.length := by omega
    unfold renF
    rw [g1 l hl', g2 l hl']
    exact hA _ (h0 _ (List.getElem_mem _))
  unfold renD
  rw [hn, hf, hS.1]

theorem ren_sameT {D : Da} (hV : Va D) : SameT (renD D) D := ⟨rfl, fun T T' h h' => ren_same hV h h'⟩
/-- renumbering again changes nothing -/
theorem ren_idem {D : Da} (hV : Va D) : renD (renD D) = renD D :=
  ren_eq (renD_valid hV) hV (ren_sameT hV) fun T h => ren_acc hV h
/-- every state of a renumbered automaton is a tree's -/
theorem ren_reach {D : Da} (hV : Va D) {i : Nat} (hi : i < (renD D).next.length) : ∃ T : BT, T.labs (· < two D.vars) ∧ stB (renD D) T = i := by
  rw [renD_len] at hi
  obtain ⟨T, h1, h2⟩ := reached (D := D) _ (getD_in (a := (0 : Int)) hi)
  obtain ⟨a1, a2, a3⟩ := ren_st hV T h1
  refine ⟨T, h1, ?_⟩
  have n1 := numO_eq (renumber56 hV).1.nd a2 rfl
  have n2 := numO_eq (renumber56 hV).1.nd hi rfl
  rw [a3, h2, n2] at n1
  omega
end Go.Abs.Det

/- Plain law: the minimal automaton hangs on the language alone. -/
namespace Go.Abs.Det
open Go Go.Abs
set_option linter.unusedSimpArgs false
set_option linter.unusedVariables false

/-- two trees that no surroundings tell apart -/
def Ner (v : Nat) (L : BT → Bool) (T T' : BT) : Prop := ∃ E : BT → BT → Prop, E T T' ∧
  (∀ A B, E A B → A.labs (· < v) ∧ B.labs (· < v) ∧ L A = L B) ∧
  (∀ A B C x, x < v → C.labs (· < v) → E A B → E (.node x A C) (.node x B C) ∧ E (.node x C A) (.node x C B))
theorem Ner.congr {v : Nat} {L L' : BT → Bool} (h : ∀ T : BT, T.labs (· < v) → L T = L' T) {T T' : BT} (hn : Ner v L T T') : Ner v L' T T' := by
  obtain ⟨E, h1, h2, h3⟩ := hn
  exact ⟨E, h1, fun A B hE => by obtain ⟨a, b, c⟩ := h2 A B hE; exact ⟨a, b, by rw [← h A a, ← h B b, c]⟩, h3⟩

/-- what Minimize chooses -/
structure Quo (R : Da) (c F : List Int) (m : Nat) : Prop where
  st : Stab R c m
  ok : MinOk R c F m
  inv : ∀ j : Nat, j < m → c.getD (F.getD j 0).toNat 0 = j
  pos : 0 < m

section
variable {R : Da} {c F : List Int} {m : Nat}
theorem st_bd {D : Da} (hV : Va D) {T : BT} (h : T.labs (· < two D.vars)) : (stB D T).toNat < D.next.length ∧ ((stB D T).toNat : Int) = stB D T := by
  have := stB_bd hV h
  omega
theorem quo_st (hV : Va R) (hQ : Quo R c F m) : ∀ T : BT, T.labs (· < two R.vars) → stB (quoD R c F m) T = c.getD (stB R T).toNat 0
  | .nil, _ => rfl
  | .node x l r, h => by
    have hl := st_bd hV h.2.1
    have hr := st_bd hV h.2.2
    have e1 : stB (quoD R c F m) (.node x l r) = nx (quoD R c F m) (stB (quoD R c F m) l) (stB (quoD R c F m) r) x := rfl
    rw [e1, quo_st hV hQ l h.2.1, quo_st hV hQ r h.2.2]
    have cl := hQ.ok.cb _ hl.1
    have cr := hQ.ok.cb _ hr.1
    have il := hQ.inv (c.getD (stB R l).toNat 0).toNat (by omega)
    have ir := hQ.inv (c.getD (stB R r).toNat 0).toNat (by omega)
    have fl := hQ.ok.fb (c.getD (stB R l).toNat 0).toNat (by omega)
    have fr := hQ.ok.fb (c.getD (stB R r).toNat 0).toNat (by omega)
    have e2 := built_nx (v := R.vars) (e := c.getD R.empty.toNat 0) (nxt := quoN R c F) (fi := finB (quoF R F) m) (i := (c.getD (stB R l).toNat 0).toNat) (j := (c.getD (stB R r).toNat 0).toNat) (n := m) (x := x) (by omega) (by omega) h.1
    have tl := Int.toNat_of_nonneg cl.1
    have tr := Int.toNat_of_nonneg cr.1
    rw [tl, tr] at e2
    rw [tl] at il
    rw [tr] at ir
    have e2' : nx (quoD R c F m) (c.getD (stB R l).toNat 0) (c.getD (stB R r).toNat 0) x = quoN R c F (c.getD (stB R l).toNat 0).toNat (c.getD (stB R r).toNat 0).toNat x := e2
    rw [e2']
    unfold quoN
    have cong := hQ.st.cong
    have s1 := cong.l (F.getD (c.getD (stB R l).toNat 0).toNat 0).toNat (stB R l).toNat (F.getD (c.getD (stB R r).toNat 0).toNat 0).toNat x (by omega) hl.1 (by omega) h.1 il
    have s2 := cong.r (F.getD (c.getD (stB R r).toNat 0).toNat 0).toNat (stB R r).toNat (stB R l).toNat x (by omega) hr.1 hl.1 h.1 ir
    have e3 : ∀ a b : Int, 0 ≤ a → 0 ≤ b → (nx R a b x).toNat = nt R a.toNat b.toNat x := fun a b ha hb => by unfold nt; rw [Int.toNat_of_nonneg ha, Int.toNat_of_nonneg hb]
    rw [e3 _ _ fl.1 fr.1, s1, s2]
    have := hl.2; have := hr.2
    rw [← e3 _ _ (by omega) (by omega)]
    rfl
theorem quo_acc (hV : Va R) (hQ : Quo R c F m) {T : BT} (h : T.labs (· < two R.vars)) : accB (quoD R c F m) T = accB R T := by
  unfold accB
  rw [quo_st hV hQ T h]
  have hl := st_bd hV h
  have cl := hQ.ok.cb _ hl.1
  have il := hQ.inv (c.getD (stB R T).toNat 0).toNat (by omega)
  have fl := hQ.ok.fb (c.getD (stB R T).toNat 0).toNat (by omega)
  rw [Int.toNat_of_nonneg cl.1] at il
  have e : (quoD R c F m).fin.getD (c.getD (stB R T).toNat 0).toNat false = quoF R F (c.getD (stB R T).toNat 0).toNat := by
    show (finB (quoF R F) m).getD _ false = _
    unfold finB
    rw [map_getD (by omega)]
  rw [e]
  exact hQ.st.cong.fin _ _ (by omega) hl.1 il
/-- the classes of trees are Nerode's -/
theorem quo_ner (hV : Va R) (hR : ∀ i, i < R.next.length → ∃ T : BT, T.labs (· < two R.vars) ∧ stB R T = i) (hQ : Quo R c F m) {T T' : BT} (h : T.labs (· < two R.vars)) (h' : T'.labs (· < two R.vars)) :
    stB (quoD R c F m) T = stB (quoD R c F m) T' ↔ Ner (two R.vars) (accB R) T T' := by
  constructor
  · intro e
    refine ⟨fun A B => A.labs (· < two R.vars) ∧ B.labs (· < two R.vars) ∧ stB (quoD R c F m) A = stB (quoD R c F m) B, ⟨h, h', e⟩, fun A B hE => ⟨hE.1, hE.2.1, ?_⟩, fun A B C x hx hC hE => ⟨⟨⟨hx, hE.1, hC⟩, ⟨hx, hE.2.1, hC⟩, ?_⟩, ⟨⟨hx, hC, hE.1⟩, ⟨hx, hC, hE.2.1⟩, ?_⟩⟩⟩
    · rw [← quo_acc hV hQ hE.1, ← quo_acc hV hQ hE.2.1]; unfold accB; rw [hE.2.2]
    · show nx _ _ _ x = nx _ _ _ x; rw [hE.2.2]
    · show nx _ _ _ x = nx _ _ _ x; rw [hE.2.2]
  · rintro ⟨E, e1, e2, e3⟩
    rw [quo_st hV hQ T h, quo_st hV hQ T' h']
    refine hQ.st.big (fun s t => ∃ A B : BT, E A B ∧ stB R A = s ∧ stB R B = t) ⟨?_, ?_, ?_⟩ _ _ (st_bd hV h).1 (st_bd hV h').1 ⟨T, T', e1, (st_bd hV h).2.symm, (st_bd hV h').2.symm⟩
    · rintro s t hs ht ⟨A, B, hE, a, b⟩
      have := (e2 A B hE).2.2
      unfold accB at this
      rw [a, b] at this
      exact this
    · rintro s t q x hs ht hq hx ⟨A, B, hE, a, b⟩
      obtain ⟨C, c1, c2⟩ := hR q hq
      have e := (e3 A B C x hx c1 hE).1
      obtain ⟨la, lb, _⟩ := e2 _ _ e
      refine ⟨_, _, e, ?_, ?_⟩
      · rw [← (st_bd hV la).2]; show ((nx R (stB R A) (stB R C) x).toNat : Int) = _; rw [a, c2]; rfl
      · rw [← (st_bd hV lb).2]; show ((nx R (stB R B) (stB R C) x).toNat : Int) = _; rw [b, c2]; rfl
    · rintro s t q x hs ht hq hx ⟨A, B, hE, a, b⟩
      obtain ⟨C, c1, c2⟩ := hR q hq
      have e := (e3 A B C x hx c1 hE).2
      obtain ⟨la, lb, _⟩ := e2 _ _ e
      refine ⟨_, _, e, ?_, ?_⟩
      · rw [← (st_bd hV la).2]; show ((nx R (stB R C) (stB R A) x).toNat : Int) = _; rw [a, c2]; rfl
      · rw [← (st_bd hV lb).2]; show ((nx R (stB R C) (stB R B) x).toNat : Int) = _; rw [b, c2]; rfl
end

/-- minimal automata of one language are one -/
theorem min_eq {D1 D2 : Da} {c1 F1 c2 F2 : List Int} {m1 m2 : Nat} (hV1 : Va D1) (hV2 : Va D2) (hv : D1.vars = D2.vars) (hA : ∀ T : BT, T.labs (· < two D1.vars) → accB D1 T = accB D2 T)
    (hQ1 : Quo (renD D1) c1 F1 m1) (hQ2 : Quo (renD D2) c2 F2 m2) : renD (quoD (renD D1) c1 F1 m1) = renD (quoD (renD D2) c2 F2 m2) := by
  have r1 := renD_valid hV1
  have r2 := renD_valid hV2
  have a1 : ∀ T : BT, T.labs (· < two D1.vars) → accB (renD D1) T = accB D1 T := fun T h => ren_acc hV1 h
  have a2 : ∀ T : BT, T.labs (· < two D1.vars) → accB (renD D2) T = accB D2 T := fun T h => ren_acc hV2 (by rw [← hv]; exact h)
  refine ren_eq (quo_valid r1 hQ1.ok hQ1.pos) (quo_valid r2 hQ2.ok hQ2.pos) ⟨hv, fun T T' h h' => ?_⟩ fun T h => ?_
  · rw [quo_ner r1 (fun i hi => ren_reach hV1 hi) hQ1 h h', quo_ner r2 (fun i hi => ren_reach hV2 hi) hQ2 (by show T.labs (· < two D2.vars); rw [← hv]; exact h) (by show T'.labs (· < two D2.vars); rw [← hv]; exact h')]
    have e : two (renD D2).vars = two (renD D1).vars := by show two D2.vars = two D1.vars; rw [hv]
    rw [e]
    exact ⟨fun q => q.congr fun A hA' => by rw [a1 A hA', a2 A hA', hA A hA'], fun q => q.congr fun A hA' => by rw [a1 A hA', a2 A hA', hA A hA']⟩
  · have h2 : T.labs (· < two D2.vars) := by rw [← hv]; exact h
    rw [quo_acc r1 hQ1 h, quo_acc r2 hQ2 h2, a1 T h, a2 T h, hA T h]
end Go.Abs.Det

/- EqualTreeDFA: an automaton is equal to itself. -/
namespace Go.Abs.Det
open Go Go.Abs
set_option linter.unusedSimpArgs false
set_option linter.unusedVariables false

theorem bools_same_loop {l : List Bool} {z z' : Bool} {s4 : AV} {H : Heap} (hl : l.length < 1099511627776) : ∀ d i, i + d = l.length →
    L.loop a67l0s a67l0 ⟨a67l0F (.sl z l.length (bools l)) (.sl z' l.length (bools l)) s4 (.int .i64 (i : Nat)), H⟩ = some (.exit 0, ⟨a67l0F (.sl z l.length (bools l)) (.sl z' l.length (bools l)) s4 (.int .i64 (l.length : Nat)), H⟩)
  | 0, i, h => by
    obtain rfl : i = l.length := by omega
    rw [a67l0n]
    simp (maxSteps := 30000000) (disch := first | assumption | omega | (simp only [List.length_cons, List.length_nil, List.length_append, List.length_set, List.length_replicate, List.length_map, List.length_range, List.length_take, List.length_drop, List.all_cons, List.all_nil, AV.isCell, Bool.and_self, Bool.and_true, bs_length, is64_length, w64_length, ints_length, ints_length, bools_len, List.length_map] <;> omega) | rfl | decide) only [a67l0b, run_seq, run_region, runOps_cons, oper_none, ex_mov, opv, List.getD_cons_succ, List.getD_cons_zero, putK_to, List.set_cons_succ, List.set_cons_zero, opsK_some, ex_len, lenA_sl, valK_some, ex_bin, bin_lss, Int.lt_irrefl, decide_false, runOps_nil, regK_some, seqK_normal, run_cond, condK_bool, Bool.false_eq_true, ↓reduceIte, run_exit, seqK_exit, loopK_exit, a67l0c]
  | d + 1, i, h => by
    have hlt : (i : Int) < (l.length : Nat) := by omega
    have hlt' : i < l.length := by omega
    have ih := bools_same_loop (z := z) (z' := z') (s4 := s4) (H := H) hl d (i + 1) (by omega)
    have g := bool_at hlt'
    rw [a67l0n]
    generalize l.getD i false = b at *
    cases b
    · simp (maxSteps := 30000000) (disch := first | assumption | omega | (simp only [List.length_cons, List.length_nil, List.length_append, List.length_set, List.length_replicate, List.length_map, List.length_range, List.length_take, List.length_drop, List.all_cons, List.all_nil, AV.isCell, Bool.and_self, Bool.and_true, bs_length, is64_length, w64_length, ints_length, ints_length, bools_len, List.length_map] <;> omega) | rfl | decide) only [a67l0b, run_seq, run_region, runOps_cons, oper_none, ex_mov, opv, List.getD_cons_succ, List.getD_cons_zero, putK_to, List.set_cons_succ, List.set_cons_zero, opsK_some, ex_len, lenA_sl, valK_some, ex_bin, bin_lss, hlt, decide_true, runOps_nil, regK_some, seqK_normal, run_cond, condK_bool, ↓reduceIte, run_skip, run_block, run_draw, List.take_succ_cons, List.take_zero, runFree_cons, foper_none, fe_mov, fstK_some, fputK_to, freeK_some, fe_iaddr, ex_iaddr, iaddrA_sl, Int.toNat_natCast, Nat.mul_one, fe_load, ex_load, rd_vptr, g, loadK_1, runFree_nil, drawK_some, List.drop_succ_cons, List.drop_zero, adopt, adoptVal, ex_beq, beqA_t, Bool.not_true, Bool.false_eq_true, blockK_normal, bin_add, cadd1, wr64, loopK_normal, a67l0c, ih]
    · simp (maxSteps := 30000000) (disch := first | assumption | omega | (simp only [List.length_cons, List.length_nil, List.length_append, List.length_set, List.length_replicate, List.length_map, List.length_range, List.length_take, List.length_drop, List.all_cons, List.all_nil, AV.isCell, Bool.and_self, Bool.and_true, bs_length, is64_length, w64_length, ints_length, ints_length, bools_len, List.length_map] <;> omega) | rfl | decide) only [a67l0b, run_seq, run_region, runOps_cons, oper_none, ex_mov, opv, List.getD_cons_succ, List.getD_cons_zero, putK_to, List.set_cons_succ, List.set_cons_zero, opsK_some, ex_len, lenA_sl, valK_some, ex_bin, bin_lss, hlt, decide_true, runOps_nil, regK_some, seqK_normal, run_cond, condK_bool, ↓reduceIte, run_skip, run_block, run_draw, List.take_succ_cons, List.take_zero, runFree_cons, foper_none, fe_mov, fstK_some, fputK_to, freeK_some, fe_iaddr, ex_iaddr, iaddrA_sl, Int.toNat_natCast, Nat.mul_one, fe_load, ex_load, rd_vptr, g, loadK_1, runFree_nil, drawK_some, List.drop_succ_cons, List.drop_zero, adopt, adoptVal, ex_beq, beqA_t, Bool.not_true, Bool.false_eq_true, blockK_normal, bin_add, cadd1, wr64, loopK_normal, a67l0c, ih]
theorem bools_same (z z' : Bool) (l : List Bool) (hl : l.length < 1099511627776) : L.pcall 67 [.sl z l.length (bools l), .sl z' l.length (bools l)] = some (.bool true) := by
  have ih := fun s4 => bools_same_loop (z := z) (z' := z') (s4 := s4) (H := []) hl l.length 0 (by omega)
  simp only [Int.natCast_zero] at ih
  rw [a67p, a67, pbodyA_eq]
  simp (maxSteps := 30000000) (disch := first | assumption | omega | (simp only [List.length_cons, List.length_nil, List.length_append, List.length_set, List.length_replicate, List.length_map, List.length_range, List.length_take, List.length_drop, List.all_cons, List.all_nil, AV.isCell, Bool.and_self, Bool.and_true, bs_length, is64_length, w64_length, ints_length, ints_length, bools_len, List.length_map] <;> omega) | rfl | decide) only [bodyA_eq, List.length_cons, List.length_nil, Nat.zero_add, Nat.reduceAdd, Nat.reduceSub, pads, List.cons_append, List.nil_append, run_seq, run_region, runOps_cons, oper_none, ex_mov, opv, putK_to, List.set_cons_succ, List.set_cons_zero, opsK_some, runOps_nil, regK_some, seqK_normal, List.getD_cons_zero, ex_len, List.getD_cons_succ, lenA_sl, valK_some, ex_bin, bin_neq, decide_true, Bool.not_true, run_cond, condK_bool, Bool.false_eq_true, ↓reduceIte, run_skip, run_block, run_loop, a67l0c, ih, blockK_exit, run_ret, bodyK_ret, results_1, res_tmp, retvK_some, pbodyK_some, frzN, frz_bool]

theorem rows_same_loop {l : List (List Int)} {z z' : Bool} {s4 : AV} {H : Heap} (hl : l.length < 1099511627776) (hr : ∀ r ∈ l, r.length < 1099511627776) : ∀ d i, i + d = l.length →
    L.loop a39l0s a39l0 ⟨a39l0F (.sl z l.length (l.map rowT)) (.sl z' l.length (l.map rowT)) s4 (.int .i64 (i : Nat)), H⟩ = some (.exit 0, ⟨a39l0F (.sl z l.length (l.map rowT)) (.sl z' l.length (l.map rowT)) s4 (.int .i64 (l.length : Nat)), H⟩)
  | 0, i, h => by
    obtain rfl : i = l.length := by omega
    rw [a39l0n]
    simp (maxSteps := 30000000) (disch := first | assumption | omega | (simp only [List.length_cons, List.length_nil, List.length_append, List.length_set, List.length_replicate, List.length_map, List.length_range, List.length_take, List.length_drop, List.all_cons, List.all_nil, AV.isCell, Bool.and_self, Bool.and_true, bs_length, is64_length, w64_length, ints_length, ints_length, bools_len, List.length_map] <;> omega) | rfl | decide) only [a39l0b, run_seq, run_region, runOps_cons, oper_none, ex_mov, opv, List.getD_cons_succ, List.getD_cons_zero, putK_to, List.set_cons_succ, List.set_cons_zero, opsK_some, ex_len, lenA_sl, valK_some, ex_bin, bin_lss, Int.lt_irrefl, decide_false, runOps_nil, regK_some, seqK_normal, run_cond, condK_bool, Bool.false_eq_true, ↓reduceIte, run_exit, seqK_exit, loopK_exit, a39l0c]
  | d + 1, i, h => by
    have hlt : (i : Int) < (l.length : Nat) := by omega
    have hlt' : i < l.length := by omega
    have ih := rows_same_loop (z := z) (z' := z') (s4 := s4) (H := H) hl hr d (i + 1) (by omega)
    have g := row_at hlt'
    have hm := ints_same false false (l.getD i []) (hr _ (getD_in hlt'))
    unfold iw at hm
    rw [a39l0n]
    generalize l.getD i [] = b at *
    simp (maxSteps := 30000000) (disch := first | assumption | omega | (simp only [List.length_cons, List.length_nil, List.length_append, List.length_set, List.length_replicate, List.length_map, List.length_range, List.length_take, List.length_drop, List.all_cons, List.all_nil, AV.isCell, Bool.and_self, Bool.and_true, bs_length, is64_length, w64_length, ints_length, ints_length, bools_len, List.length_map] <;> omega) | rfl | decide) only [a39l0b, run_seq, run_region, runOps_cons, oper_none, ex_mov, opv, List.getD_cons_succ, List.getD_cons_zero, putK_to, List.set_cons_succ, List.set_cons_zero, opsK_some, ex_len, lenA_sl, valK_some, ex_bin, bin_lss, hlt, decide_true, runOps_nil, regK_some, seqK_normal, run_cond, condK_bool, ↓reduceIte, run_skip, run_block, run_draw, List.take_succ_cons, List.take_zero, runFree_cons, foper_none, fe_mov, fstK_some, fputK_to, freeK_some, fe_iaddr, ex_iaddr, iaddrA_sl, Int.toNat_natCast, Nat.mul_one, fe_load, ex_load, rd_vptr, g, rowT, loadK_1, runFree_nil, drawK_some, List.drop_succ_cons, List.drop_zero, adopt, adoptVal, ex_call, List.map_cons, List.map_nil, pcallA_eq, frzN, List.mapM_cons, frz_sl, List.mapM_nil, Option.pure_def, Option.bind_eq_bind, Option.bind_some, argK_some, hm, retK_some, scal, scal1, ex_un, un_not, Bool.not_true, Bool.false_eq_true, blockK_normal, bin_add, cadd1, wr64, loopK_normal, a39l0c, ih]
theorem rows_same (z z' : Bool) (l : List (List Int)) (hl : l.length < 1099511627776) (hr : ∀ r ∈ l, r.length < 1099511627776) : L.pcall 39 [.sl z l.length (l.map rowT), .sl z' l.length (l.map rowT)] = some (.bool true) := by
  have ih := fun s4 => rows_same_loop (z := z) (z' := z') (s4 := s4) (H := []) hl hr l.length 0 (by omega)
  simp only [Int.natCast_zero] at ih
  rw [a39p, a39, pbodyA_eq]
  simp (maxSteps := 30000000) (disch := first | assumption | omega | (simp only [List.length_cons, List.length_nil, List.length_append, List.length_set, List.length_replicate, List.length_map, List.length_range, List.length_take, List.length_drop, List.all_cons, List.all_nil, AV.isCell, Bool.and_self, Bool.and_true, bs_length, is64_length, w64_length, ints_length, ints_length, bools_len, List.length_map] <;> omega) | rfl | decide) only [bodyA_eq, List.length_cons, List.length_nil, Nat.zero_add, Nat.reduceAdd, Nat.reduceSub, pads, List.cons_append, List.nil_append, run_seq, run_region, runOps_cons, oper_none, ex_mov, opv, putK_to, List.set_cons_succ, List.set_cons_zero, opsK_some, runOps_nil, regK_some, seqK_normal, List.getD_cons_zero, ex_len, List.getD_cons_succ, lenA_sl, valK_some, ex_bin, bin_neq, decide_true, Bool.not_true, run_cond, condK_bool, Bool.false_eq_true, ↓reduceIte, run_skip, run_block, run_loop, a39l0c, ih, blockK_exit, run_ret, bodyK_ret, results_1, res_tmp, retvK_some, pbodyK_some, frzN, frz_bool]

theorem blocks_same_loop {l : List (List (List Int))} {z z' : Bool} {s4 : AV} {H : Heap} (hl : l.length < 1099511627776) (hr : ∀ r ∈ l, r.length < 1099511627776 ∧ ∀ w ∈ r, w.length < 1099511627776) : ∀ d i, i + d = l.length →
    L.loop a66l0s a66l0 ⟨a66l0F (.sl z l.length (l.map rowsD)) (.sl z' l.length (l.map rowsD)) s4 (.int .i64 (i : Nat)), H⟩ = some (.exit 0, ⟨a66l0F (.sl z l.length (l.map rowsD)) (.sl z' l.length (l.map rowsD)) s4 (.int .i64 (l.length : Nat)), H⟩)
  | 0, i, h => by
    obtain rfl : i = l.length := by omega
    rw [a66l0n]
    simp (maxSteps := 30000000) (disch := first | assumption | omega | (simp only [List.length_cons, List.length_nil, List.length_append, List.length_set, List.length_replicate, List.length_map, List.length_range, List.length_take, List.length_drop, List.all_cons, List.all_nil, AV.isCell, Bool.and_self, Bool.and_true, bs_length, is64_length, w64_length, ints_length, ints_length, bools_len, List.length_map] <;> omega) | rfl | decide) only [a66l0b, run_seq, run_region, runOps_cons, oper_none, ex_mov, opv, List.getD_cons_succ, List.getD_cons_zero, putK_to, List.set_cons_succ, List.set_cons_zero, opsK_some, ex_len, lenA_sl, valK_some, ex_bin, bin_lss, Int.lt_irrefl, decide_false, runOps_nil, regK_some, seqK_normal, run_cond, condK_bool, Bool.false_eq_true, ↓reduceIte, run_exit, seqK_exit, loopK_exit, a66l0c]
  | d + 1, i, h => by
    have hlt : (i : Int) < (l.length : Nat) := by omega
    have hlt' : i < l.length := by omega
    have ih := blocks_same_loop (z := z) (z' := z') (s4 := s4) (H := H) hl hr d (i + 1) (by omega)
    have g := rows_at hlt'
    have hi := hr _ (getD_in (a := ([] : List (List Int))) hlt')
    have hm := rows_same false false (l.getD i []) hi.1 hi.2
    rw [a66l0n]
    generalize l.getD i [] = b at *
    simp (maxSteps := 30000000) (disch := first | assumption | omega | (simp only [List.length_cons, List.length_nil, List.length_append, List.length_set, List.length_replicate, List.length_map, List.length_range, List.length_take, List.length_drop, List.all_cons, List.all_nil, AV.isCell, Bool.and_self, Bool.and_true, bs_length, is64_length, w64_length, ints_length, ints_length, bools_len, List.length_map] <;> omega) | rfl | decide) only [a66l0b, run_seq, run_region, runOps_cons, oper_none, ex_mov, opv, List.getD_cons_succ, List.getD_cons_zero, putK_to, List.set_cons_succ, List.set_cons_zero, opsK_some, ex_len, lenA_sl, valK_some, ex_bin, bin_lss, hlt, decide_true, runOps_nil, regK_some, seqK_normal, run_cond, condK_bool, ↓reduceIte, run_skip, run_block, run_draw, List.take_succ_cons, List.take_zero, runFree_cons, foper_none, fe_mov, fstK_some, fputK_to, freeK_some, fe_iaddr, ex_iaddr, iaddrA_sl, Int.toNat_natCast, Nat.mul_one, fe_load, ex_load, rd_vptr, g, rowsD, loadK_1, runFree_nil, drawK_some, List.drop_succ_cons, List.drop_zero, adopt, adoptVal, ex_call, List.map_cons, List.map_nil, pcallA_eq, frzN, List.mapM_cons, frz_sl, List.mapM_nil, Option.pure_def, Option.bind_eq_bind, Option.bind_some, argK_some, hm, retK_some, scal, scal1, ex_un, un_not, Bool.not_true, Bool.false_eq_true, blockK_normal, bin_add, cadd1, wr64, loopK_normal, a66l0c, ih]
theorem blocks_same (z z' : Bool) (l : List (List (List Int))) (hl : l.length < 1099511627776) (hr : ∀ r ∈ l, r.length < 1099511627776 ∧ ∀ w ∈ r, w.length < 1099511627776) : L.pcall 66 [.sl z l.length (l.map rowsD), .sl z' l.length (l.map rowsD)] = some (.bool true) := by
  have ih := fun s4 => blocks_same_loop (z := z) (z' := z') (s4 := s4) (H := []) hl hr l.length 0 (by omega)
  simp only [Int.natCast_zero] at ih
  rw [a66p, a66, pbodyA_eq]
  simp (maxSteps := 30000000) (disch := first | assumption | omega | (simp only [List.length_cons, List.length_nil, List.length_append, List.length_set, List.length_replicate, List.length_map, List.length_range, List.length_take, List.length_drop, List.all_cons, List.all_nil, AV.isCell, Bool.and_self, Bool.and_true, bs_length, is64_length, w64_length, ints_length, ints_length, bools_len, List.length_map] <;> omega) | rfl | decide) only [bodyA_eq, List.length_cons, List.length_nil, Nat.zero_add, Nat.reduceAdd, Nat.reduceSub, pads, List.cons_append, List.nil_append, run_seq, run_region, runOps_cons, oper_none, ex_mov, opv, putK_to, List.set_cons_succ, List.set_cons_zero, opsK_some, runOps_nil, regK_some, seqK_normal, List.getD_cons_zero, ex_len, List.getD_cons_succ, lenA_sl, valK_some, ex_bin, bin_neq, decide_true, Bool.not_true, run_cond, condK_bool, Bool.false_eq_true, ↓reduceIte, run_skip, run_block, run_loop, a66l0c, ih, blockK_exit, run_ret, bodyK_ret, results_1, res_tmp, retvK_some, pbodyK_some, frzN, frz_bool]

theorem dfa_same {D : Da} (hV : Va D) : L.pcall 29 [D.av, D.av] = some (.bool true) := by
  have n64 := hV.n64
  have h8 := two_bd hV.v3
  have h1 := blocks_same false false D.next (by omega) (fun r hr => ⟨by rw [hV.rl r hr]; omega, fun w hw => by rw [hV.cl r hr w hw]; omega⟩)
  have h2 := bools_same false false D.fin (by rw [hV.fl]; omega)
  unfold Da.av Da.cells
  rw [a29p, a29, pbodyA_eq]
  simp (maxSteps := 30000000) (disch := first | assumption | omega | (simp only [List.length_cons, List.length_nil, List.length_append, List.length_set, List.length_replicate, List.length_map, List.length_range, List.length_take, List.length_drop, List.all_cons, List.all_nil, AV.isCell, Bool.and_self, Bool.and_true, bs_length, is64_length, w64_length, ints_length, ints_length, bools_len, List.length_map] <;> omega) | rfl | decide) only [bodyA_eq, List.length_cons, List.length_nil, Nat.zero_add, Nat.reduceAdd, Nat.reduceSub, pads, List.cons_append, List.nil_append, run_seq, run_region, runOps_cons, oper_none, ex_box, AV.cells, opv, List.getD_cons_zero, List.all_cons, AV.isCell, List.all_nil, Bool.and_self, ↓reduceIte, putK_to, List.set_cons_succ, List.set_cons_zero, opsK_some, List.getD_cons_succ, ex_mov, runOps_nil, regK_some, seqK_normal, ex_faddr, faddrA_ptr, Nat.add_zero, valK_some, ex_load, rd_ptr, List.getElem?_cons_zero, rdK_cells, List.drop_zero, List.take_succ_cons, List.take_zero, loadK_1, List.getElem?_cons_succ, ex_bin, bin_eql, decide_true, oper_guard, guardK_bool, List.drop_succ_cons, ex_pick, pickA_bool, ex_call, List.map_cons, List.map_nil, pcallA_eq, frzN, List.mapM_cons, frz_sl, List.mapM_nil, Option.pure_def, Option.bind_eq_bind, Option.bind_some, argK_some, h1, retK_some, scal, scal1, List.take_nil, h2, run_ret, bodyK_ret, results_1, res_tmp, retvK_some, pbodyK_some, frz_bool]
end Go.Abs.Det

/- Minimize and the minimal automaton; three automata of one language answer alike. -/
namespace Go.Abs.Det
open Go Go.Abs
set_option linter.unusedSimpArgs false
set_option linter.unusedVariables false

/-- a minimal automaton of D -/
def IsMin (D M : Da) : Prop := ∃ c F m, Quo (renD D) c F m ∧ M = renD (quoD (renD D) c F m)
theorem minimize_is {D : Da} (hV : Va D) : ∃ M, IsMin D M ∧ L.pcall 23 [D.av] = some (.tup [M.av, .int .i64 0]) := by
  obtain ⟨c, F, m, h1, h2, h3, h4⟩ := minimize23 hV
  have hr := renD_valid hV
  have h5 := h2.cb 0 hr.n0
  exact ⟨_, ⟨c, F, m, ⟨h1, h2, h3, by omega⟩, rfl⟩, h4⟩
section
variable {D M : Da}
theorem IsMin.valid (hV : Va D) (h : IsMin D M) : Va M := by
  obtain ⟨c, F, m, hQ, rfl⟩ := h
  exact renD_valid (quo_valid (renD_valid hV) hQ.ok hQ.pos)
theorem IsMin.vars (h : IsMin D M) : M.vars = D.vars := by
  obtain ⟨c, F, m, hQ, rfl⟩ := h; rfl
theorem IsMin.acc (hV : Va D) (h : IsMin D M) {T : BT} (hT : T.labs (· < two D.vars)) : accB M T = accB D T := by
  obtain ⟨c, F, m, hQ, rfl⟩ := h
  have hr := renD_valid hV
  have h1 : accB (renD (quoD (renD D) c F m)) T = accB (quoD (renD D) c F m) T := ren_acc (quo_valid hr hQ.ok hQ.pos) hT
  have h2 : accB (renD D) T = accB D T := ren_acc hV hT
  rw [h1, quo_acc hr hQ hT, h2]
theorem IsMin.le (hV : Va D) (h : IsMin D M) : M.next.length ≤ (renD D).next.length := by
  obtain ⟨c, F, m, hQ, rfl⟩ := h
  have hr := renD_valid hV
  have hq := quo_valid hr hQ.ok hQ.pos
  have h1 := (renumber56 hq).1.le
  have h2 := (stab_bd hQ.st).2.2.2
  have h3 : (quoD (renD D) c F m).next.length = m := nextB_len ..
  rw [renD_len (quoD (renD D) c F m)]
  omega
theorem IsMin.uniq {D' M' : Da} (hV : Va D) (hV' : Va D') (hv : D.vars = D'.vars) (hA : ∀ T : BT, T.labs (· < two D.vars) → accB D T = accB D' T) (h : IsMin D M) (h' : IsMin D' M') : M = M' := by
  obtain ⟨c, F, m, hQ, rfl⟩ := h
  obtain ⟨c', F', m', hQ', rfl⟩ := h'
  exact min_eq hV hV' hv hA hQ hQ'
end
theorem renD_le {D : Da} (hV : Va D) : (renD D).next.length ≤ D.next.length := by rw [renD_len]; exact (renumber56 hV).1.le
theorem renD_acc {D : Da} (hV : Va D) {T : BT} (hT : T.labs (· < two D.vars)) : accB (renD D) T = accB D T := ren_acc hV hT

/-- automata of one language answer alike -/
theorem acc_answer {D : Da} (hV : Va D) (z : Bool) (t : List Lf) (hl : t.length < 1099511627776) (hx : ∀ e ∈ t, e.x < 256) : ∃ b e, ∀ D' : Da, Va D' → D'.vars = D.vars → (∀ T : BT, T.labs (· < two D.vars) → accB D' T = accB D T) →
    L.pcall 18 [D'.av, tw z t] = some (.tup [.bool b, .int .i64 e]) := by
  by_cases he : tchkE t D.vars.toNat = 0
  · obtain ⟨T, rfl, h2, h3⟩ := (tchk_zero hV.v0).1 he
    refine ⟨accB D T, 0, fun D' hV' hv hA => ?_⟩
    have h := accepts18_ok hV' z h2 (by rw [hv]; exact h3)
    rw [show D'.fin.getD (stB D' T).toNat false = accB D T from hA T h3] at h
    exact h
  · refine ⟨false, tchkE t D.vars.toNat, fun D' hV' hv hA => ?_⟩
    have h := accepts18_err hV' z t hl hx (by rw [hv]; exact he)
    rw [hv] at h
    exact h
end Go.Abs.Det
