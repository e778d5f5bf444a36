/- Values over the caller's own blocks: what they stand for,and that other blocks do not matter. -/
import Derived.Test.YtdkbhidfiplncaaAbsEnc2
import Derived.Test.YtdkbhidfiplncaaAProg
namespace Go.Abs.Det
open Go Go.Abs
set_option linter.unusedSimpArgs false
set_option linter.unusedVariables false

theorem xKj {α β : Type} {f g : α → Option β} : ∀ {l : List α},(∀ a ∈ l,f a = g a) → l.mapM f = l.mapM g
  | [],_ => rfl
  | a :: l,h => by
    rw [List.mapM_cons,List.mapM_cons,h a (by simp),xKj (fun b hb => h b (by simp [hb]))]

theorem xDu {G G' : xAv} : ∀ (d : Nat) (v : AV),(∀ b ∈ bor d G v,G'[b]? = G[b]?) → frz d G' v = frz d G v ∧ bor d G' v = bor d G v := by
  intro d
  induction d with
  | zero =>
    intro v h
    cases v <;> first | exact ⟨rfl,rfl⟩ | (rename_i f caps; cases caps <;> exact ⟨rfl,rfl⟩)
  | succ d ih =>
    intro v h
    have many : ∀ cs : List AV,(∀ b ∈ cs.flatMap (bor d G),G'[b]? = G[b]?) → cs.mapM (frz d G') = cs.mapM (frz d G) ∧ cs.flatMap (bor d G') = cs.flatMap (bor d G) := by
      intro cs hcs
      refine ⟨xKj fun a ha => (ih a fun b hb => hcs b (List.mem_flatMap.2 ⟨a,ha,hb⟩)).1,?_⟩
      induction cs with
      | nil => rfl
      | cons c cs ih2 =>
        simp only [List.flatMap_cons] at hcs ⊢
        rw [(ih c fun b hb => hcs b (List.mem_append.2 (.inl hb))).2,ih2 fun b hb => hcs b (List.mem_append.2 (.inr hb))]
    cases v
    case own z id off n es =>
      have h0 := h id (by simp [bor])
      simp only [frz,bor,h0]
      cases hG : G[id]? with
      | none => simp
      | some bk =>
        cases bk with
        | dead => simp
        | mp es => simp
        | loop => simp
        | cells fz z' cs =>
          obtain ⟨m1,m2⟩ := many ((cs.drop off).take (n * es)) (fun b hb => h b (by simp only [bor,hG]; exact List.mem_cons_of_mem _ hb))
          simp [m1,m2]
    case ptr id off =>
      have h0 := h id (by simp [bor])
      simp only [frz,bor,h0]
      cases hG : G[id]? with
      | none => simp
      | some bk =>
        cases bk with
        | dead => simp
        | mp es => simp
        | loop => simp
        | cells fz z' cs =>
          obtain ⟨m1,m2⟩ := many cs (fun b hb => h b (by simp only [bor,hG]; exact List.mem_cons_of_mem _ hb))
          simp [m1,m2]
    case agg cs =>
      obtain ⟨m1,m2⟩ := many cs h
      simp [frz,bor,m1,m2]
    case tup cs =>
      obtain ⟨m1,m2⟩ := many cs h
      simp [frz,bor,m1,m2]
    case func f caps => cases caps <;> exact ⟨rfl,rfl⟩
    all_goals exact ⟨rfl,rfl⟩

def Fz (k : Nat) (G : xAv) (B : Nat) (v t : AV) : Prop := ∀ d,k ≤ d → frz d G v = some t ∧ ∀ b ∈ bor d G v,B ≤ b ∧ b < G.length

theorem Fz.frame {k B : Nat} {G G' : xAv} {v t : AV} (h : Fz k G B v t) (hl : G.length ≤ G'.length) (he : ∀ d,k ≤ d → ∀ b ∈ bor d G v,G'[b]? = G[b]?) : Fz k G' B v t := by
  intro d hd
  obtain ⟨h1,h2⟩ := h d hd
  obtain ⟨f1,f2⟩ := xDu d v (he d hd)
  exact ⟨f1.trans h1,fun b hb => by rw [f2] at hb; have := h2 b hb; omega⟩
theorem Fz.grow {k B : Nat} {G G' : xAv} {v t : AV} (h : Fz k G B v t) (hl : G.length ≤ G'.length) (he : ∀ b,B ≤ b → b < G.length → G'[b]? = G[b]?) : Fz k G' B v t :=
  h.frame hl fun d hd b hb => by have := (h d hd).2 b hb; exact he b this.1 this.2
theorem Fz.low {k B B' : Nat} {G : xAv} {v t : AV} (h : Fz k G B v t) (hb : B' ≤ B) : Fz k G B' v t :=
  fun d hd => ⟨(h d hd).1,fun b hb' => by have := (h d hd).2 b hb'; omega⟩

theorem Fz.data {G : xAv} {B : Nat} {v : AV} (h : xCA v = true) : Fz 0 G B v v := by
  intro d _
  cases v <;> simp [xCA] at h
  case func f caps =>
    cases caps with
    | nil => exact ⟨by cases d <;> rfl,fun b hb => by cases d <;> simp [bor] at hb⟩
    | cons => simp at h
  all_goals exact ⟨by cases d <;> rfl,fun b hb => by cases d <;> simp [bor] at hb⟩

theorem Fz.row {G : xAv} {B id es n : Nat} {cs : List AV} (hG : G[id]? = some (.cells false false cs)) (hd : cs.all xCA = true) (hn : cs.length = n * es) (hB : B ≤ id) : Fz 1 G B (.own false id 0 n es) (.sl false n cs) := by
  intro d hd1
  have hlt := (List.getElem?_eq_some_iff.1 hG).1
  obtain ⟨d,rfl⟩ : ∃ e,d = e + 1 := ⟨d - 1,by omega⟩
  have all : ∀ cs : List AV,cs.all xCA = true → cs.mapM (frz d G) = some cs ∧ cs.flatMap (bor d G) = [] := by
    intro cs h
    induction cs with
    | nil => exact ⟨rfl,rfl⟩
    | cons c cs ih =>
      simp only [List.all_cons,Bool.and_eq_true] at h
      obtain ⟨i1,i2⟩ := ih h.2
      obtain ⟨f1,f2⟩ := Fz.data (G := G) (B := G.length) h.1 d (Nat.zero_le _)
      have f3 : bor d G c = [] := by
        cases e : bor d G c with
        | nil => rfl
        | cons b l => have := f2 b (by rw [e]; simp); omega
      simp [List.mapM_cons,f1,i1,i2,f3]
  obtain ⟨a1,a2⟩ := all cs hd
  have htk : (cs.drop 0).take (n * es) = cs := by rw [List.drop_zero,List.take_of_length_le (by omega)]
  refine ⟨?_,fun b hb => ?_⟩
  · simp only [frz,hG,htk,a1]
    rw [if_pos (by omega)]
    rfl
  · simp only [bor,hG,htk,a2,List.mem_singleton] at hb
    subst hb
    exact ⟨hB,hlt⟩

theorem xHQ {α β : Type} {f : α → Option β} : ∀ {l : List α} {r : List β},l.length = r.length → (∀ (i : Nat) (a : α) (b : β),l[i]? = some a → r[i]? = some b → f a = some b) → l.mapM f = some r
  | [],[],_,_ => rfl
  | [],_ :: _,h,_ => by simp at h
  | _ :: _,[],h,_ => by simp at h
  | a :: l,b :: r,h,hf => by
    have h0 := hf 0 a b rfl rfl
    have ih := xHQ (f := f) (l := l) (r := r) (by simpa using h) (fun i x y h1 h2 => hf (i + 1) x y (by simpa using h1) (by simpa using h2))
    simp [List.mapM_cons,h0,ih]

def Grow (k : Nat) (G : xAv) (B : Nat) (v : AV) (ts : List AV) : Prop :=
  (ts = [] ∧ v = .sl true 0 []) ∨ ∃ id cs,v = .own false id 0 ts.length 1 ∧ G[id]? = some (.cells false false cs) ∧ B ≤ id ∧ cs.length = ts.length ∧
    ∀ (i : Nat) (c t : AV),cs[i]? = some c → ts[i]? = some t → Fz k G B c t ∧ ∀ d,k ≤ d → id ∉ bor d G c

theorem Grow.grow {k B : Nat} {G G' : xAv} {v : AV} {ts : List AV} (h : Grow k G B v ts) (hl : G.length ≤ G'.length) (he : ∀ b,B ≤ b → b < G.length → G'[b]? = G[b]?) : Grow k G' B v ts := by
  rcases h with h | ⟨id,cs,h1,h2,h3,h4,h5⟩
  · exact .inl h
  · have hlt := (List.getElem?_eq_some_iff.1 h2).1
    refine .inr ⟨id,cs,h1,by rw [he id h3 hlt]; exact h2,h3,h4,fun i c t hc ht => ?_⟩
    obtain ⟨g1,g2⟩ := h5 i c t hc ht
    refine ⟨g1.grow hl he,fun d hd hm => g2 d hd ?_⟩
    rw [(xDu d c (fun b hb => by have := (g1 d hd).2 b hb; exact he b this.1 this.2)).2] at hm
    exact hm

theorem Grow.fz {k B : Nat} {G : xAv} {v : AV} {ts : List AV} (h : Grow k G B v ts) : Fz (k + 1) G B v (.sl (ts.length == 0) ts.length ts) ∨ ts = [] := by
  rcases h with ⟨rfl,rfl⟩ | ⟨id,cs,rfl,h2,h3,h4,h5⟩
  · exact .inr rfl
  · by_cases h0 : ts = []
    · exact .inr h0
    left
    have hz : (ts.length == 0) = false := by
      cases ts with
      | nil => exact absurd rfl h0
      | cons => rfl
    rw [hz]
    intro d hd
    have hlt := (List.getElem?_eq_some_iff.1 h2).1
    obtain ⟨d,rfl⟩ : ∃ e,d = e + 1 := ⟨d - 1,by omega⟩
    have htk : (cs.drop 0).take (ts.length * 1) = cs := by rw [List.drop_zero,List.take_of_length_le (by omega)]
    have hm := xHQ (f := frz d G) h4 (fun i a b ha hb => ((h5 i a b ha hb).1 d (by omega)).1)
    refine ⟨?_,fun b hb => ?_⟩
    · simp only [frz,h2,htk,hm]
      rw [if_pos (by omega)]
      rfl
    · simp only [bor,h2,htk,List.mem_cons,List.mem_flatMap] at hb
      rcases hb with rfl | ⟨c,hc,hb⟩
      · exact ⟨h3,hlt⟩
      · obtain ⟨i,hi,e⟩ := List.mem_iff_getElem.1 hc
        have hc' : cs[i]? = some c := by rw [List.getElem?_eq_getElem hi,e]
        exact ((h5 i c _ hc' (List.getElem?_eq_getElem (by omega))).1 d (by omega)).2 b hb

theorem Grow.first {k B : Nat} {G : xAv} {c t : AV} (hc : Fz k G B c t) (hB : B ≤ G.length) : Grow k (G ++ [.cells false false [c]]) B (.own false G.length 0 1 1) [t] := by
  refine .inr ⟨G.length,[c],rfl,by simp,hB,rfl,fun i a b ha hb => ?_⟩
  have e : i = 0 := by
    cases i with
    | zero => rfl
    | succ i => simp at ha
  subst e
  simp at ha hb
  subst ha; subst hb
  have hext : ∀ b,b < G.length → (G ++ [Blk.cells false false [c]])[b]? = G[b]? := fun b hb => List.getElem?_append_left hb
  refine ⟨hc.grow (by simp) (fun b _ hb => hext b hb),fun d hd hm => ?_⟩
  rw [(xDu d c (fun b hb => hext b ((hc d hd).2 b hb).2)).2] at hm
  have := (hc d hd).2 _ hm
  omega

theorem Grow.push {k B id : Nat} {G : xAv} {ts cs : List AV} {c t : AV} (h2 : G[id]? = some (.cells false false cs)) (h3 : B ≤ id) (h4 : cs.length = ts.length)
    (h5 : ∀ (i : Nat) (c t : AV),cs[i]? = some c → ts[i]? = some t → Fz k G B c t ∧ ∀ d,k ≤ d → id ∉ bor d G c) (hc : Fz k G B c t) (hn : ∀ d,k ≤ d → id ∉ bor d G c) :
    Grow k (G.set id .dead ++ [.cells false false (cs ++ [c])]) B (.own false G.length 0 (ts.length + 1) 1) (ts ++ [t]) := by
  have hlt := (List.getElem?_eq_some_iff.1 h2).1
  refine .inr ⟨G.length,cs ++ [c],by simp,by rw [List.getElem?_append_right (by simp)]; simp,by omega,by simp [h4],fun i a b ha hb => ?_⟩
  have key : Fz k G B a b ∧ ∀ d,k ≤ d → id ∉ bor d G a := by
    by_cases hi : i < cs.length
    · rw [List.getElem?_append_left hi] at ha
      rw [List.getElem?_append_left (by omega)] at hb
      exact h5 i a b ha hb
    · rw [List.getElem?_append_right (by omega)] at ha
      rw [List.getElem?_append_right (by omega)] at hb
      have e : i - cs.length = 0 := by
        cases e : i - cs.length with
        | zero => rfl
        | succ j => rw [e] at ha; simp at ha
      rw [e] at ha
      rw [← h4,e] at hb
      simp at ha hb
      subst ha; subst hb
      exact ⟨hc,hn⟩
  obtain ⟨f1,f2⟩ := key
  have hext : ∀ d,k ≤ d → ∀ b ∈ bor d G a,(G.set id .dead ++ [Blk.cells false false (cs ++ [c])])[b]? = G[b]? := fun d hd b hb => by
    have := ((f1 d hd).2 b hb).2
    have hne : id ≠ b := by rintro rfl; exact f2 d hd hb
    rw [List.getElem?_append_left (by simpa using this),List.getElem?_set_ne hne]
  refine ⟨f1.frame (by simp) hext,fun d hd hm => ?_⟩
  rw [(xDu d a (hext d hd)).2] at hm
  have := ((f1 d hd).2 _ hm).2
  omega

end Go.Abs.Det

/- Trees: end,formed,Check. -/
namespace Go.Abs.Det
open Go Go.Abs
set_option linter.unusedSimpArgs false
set_option linter.unusedVariables false

noncomputable abbrev L : Rec := lim xAE

abbrev iw (z : Bool) (l : List Int) : AV := .sl z l.length (ints l)
theorem xDU {l : List Int} {i : Nat} (h : i < l.length) : l.drop i = l.getD i 0 :: l.drop (i + 1) := by
  rw [List.drop_eq_getElem_cons h]
  simp [List.getD,List.getElem?_eq_getElem h]
theorem xBQ {G X : xAv} {b : Nat} {x : Blk} (h : G[b]? = some x) : (G ++ X)[b]? = some x := by
  rw [List.getElem?_append_left (List.getElem?_eq_some_iff.1 h).1]; exact h
theorem xKW {α : Type} (k : Nat) (l : List α) : List.take (l.take k).length l = l.take k := by
  rw [List.length_take]
  rcases Nat.le_total k l.length with h | h
  · rw [Nat.min_eq_left h]
  · rw [Nat.min_eq_right h,List.take_of_length_le h,List.take_of_length_le (Nat.le_refl _)]

structure Lf where
  x : Nat
  l : Int
  r : Int
def yEb (e : Lf) : List AV := [.int .u8 (e.x : Nat),.int .i64 e.l,.int .i64 e.r]
def lfs (l : List Lf) : List AV := rows yEb l
abbrev tw (z : Bool) (t : List Lf) : AV := .sl z t.length (lfs t)
theorem xDe (l : List Lf) : (lfs l).length = l.length * 3 := xJk (enc := yEb) (k := 3) (fun _ => rfl) l
inductive BT
  | nil
  | node (x : Nat) (l r : BT)

section
variable {z : Bool} {t : List Lf} {H : xAv} {l r : Int} {s4 : AV}
end

theorem xYO (x : Nat) {v b : Nat} (h : v ≤ b) : Int.fdiv (x : Int) (2 ^ min v b) = ((x >>> v : Nat) : Int) := by
  rw [Nat.min_eq_left h,Nat.shiftRight_eq_div_pow,show (2 : Int) ^ v = ((2 ^ v : Nat) : Int) from by rw [Int.natCast_pow]; rfl,Int.fdiv_eq_ediv_of_nonneg _ (Int.natCast_nonneg _)]
  rfl

end Go.Abs.Det

/- Trees as lists of nodes. -/
namespace Go.Abs.Det
open Go Go.Abs
set_option linter.unusedSimpArgs false
set_option linter.unusedVariables false

def BT.size : BT → Nat
  | .nil => 0
  | .node _ l r => 1 + (l.size + r.size)
end Go.Abs.Det

/- CopyTree. -/
namespace Go.Abs.Det
open Go Go.Abs
set_option linter.unusedSimpArgs false
set_option linter.unusedVariables false

end Go.Abs.Det

/- sub: a row. -/
namespace Go.Abs.Det
open Go Go.Abs
set_option linter.unusedSimpArgs false
set_option linter.unusedVariables false

structure Rw where
  z : Bool
  l : List Int
structure Rws where
  z : Bool
  l : List Rw
structure Dfa where
  vars : Int
  empty : Int
  z : Bool
  next : List Rws
  zf : Bool
  fin : List Bool
def r0 : Rw := ⟨true,[]⟩
def rwV (r : Rw) : AV := .sl r.z r.l.length (ints r.l)
def yE9 (r : Rws) : AV := .sl r.z r.l.length (r.l.map rwV)
def bools (l : List Bool) : List AV := l.map AV.bool
def Dfa.cells (d : Dfa) : List AV := [.int .i64 d.vars,.int .i64 d.empty,.sl d.z d.next.length (d.next.map yE9),.sl d.zf d.fin.length (bools d.fin)]
def Dfa.av (d : Dfa) : AV := .agg d.cells

theorem xDv {α : Type} (f : α → AV) (a : α) {l : List α} {i : Nat} (h : i < l.length) : List.take 1 (List.drop i (l.map f)) = [f (l.getD i a)] := by
  rw [List.drop_eq_getElem_cons (by simpa using h)]
  simp [List.getD,List.getElem?_eq_getElem h]
theorem xSA {l : List Bool} {i : Nat} (h : i < l.length) : List.take 1 (List.drop i (bools l)) = [AV.bool (l.getD i false)] := xDv _ _ h
theorem xAJ (l : List Bool) : (bools l).length = l.length := List.length_map ..
section
variable {d : Dfa} {n m l r k : Nat} {s4 s5 s7 : AV}
end
end Go.Abs.Det

/- sub: the rows of a state; all states; sub. -/
namespace Go.Abs.Det
open Go Go.Abs
set_option linter.unusedSimpArgs false
set_option linter.unusedVariables false

def rowT (l : List Int) : AV := .sl false l.length (ints l)
theorem xSB (l : List Int) : (ints l).all xCA = true := by
  induction l with
  | nil => rfl
  | cons a l ih => simp [ints,xCA]

section
variable {d : Dfa} {n m l B : Nat} {v2 : Int} {c1 c2 c3 : AV}
end
end Go.Abs.Det

/- sub: all states. -/
namespace Go.Abs.Det
open Go Go.Abs
set_option linter.unusedSimpArgs false
set_option linter.unusedVariables false

theorem xSC (a b : List Bool) : bools a ++ bools b = bools (a ++ b) := by simp [bools]

end Go.Abs.Det

/- sub. -/
namespace Go.Abs.Det
open Go Go.Abs
set_option linter.unusedSimpArgs false
set_option linter.unusedVariables false

theorem xP4 (l : List Bool) : (bools l).all xCA = true := by
  induction l with
  | nil => rfl
  | cons a l ih => simp [bools,xCA]

def two (v : Int) : Nat := 2 ^ v.toNat
theorem xUA {fn : AFunc} {args : List AV} {r v : AV} {H : xAv} (h : xBN L fn args [] = some (r,H)) (hf : frz xBP H r = some v) : xBr L fn args = some v := by
  unfold xBr; rw [h]; exact hf

end Go.Abs.Det

/- Automata as data; Check of a valid one. -/
namespace Go.Abs.Det
open Go Go.Abs
set_option linter.unusedSimpArgs false
set_option linter.unusedVariables false

structure Da where
  vars : Int
  empty : Int
  next : List (List (List Int))
  fin : List Bool
def rowsD (l : List (List Int)) : AV := .sl false l.length (l.map rowT)
def Da.cells (D : Da) : List AV := [.int .i64 D.vars,.int .i64 D.empty,.sl false D.next.length (D.next.map rowsD),.sl false D.fin.length (bools D.fin)]
def Da.av (D : Da) : AV := .agg D.cells
theorem yAa {l : List (List Int)} {i : Nat} (h : i < l.length) : List.take 1 (List.drop i (l.map rowT)) = [rowT (l.getD i [])] := xDv _ _ h
theorem xXM {l : List (List (List Int))} {i : Nat} (h : i < l.length) : List.take 1 (List.drop i (l.map rowsD)) = [rowsD (l.getD i [])] := xDv _ _ h

structure Va (D : Da) : Prop where
  v0 : 0 ≤ D.vars
  v3 : D.vars ≤ 3
  n0 : 0 < D.next.length
  n64 : D.next.length ≤ 64
  fl : D.fin.length = D.next.length
  e0 : 0 ≤ D.empty
  en : D.empty < D.next.length
  rl : ∀ rows ∈ D.next,rows.length = D.next.length
  cl : ∀ rows ∈ D.next,∀ row ∈ rows,row.length = two D.vars
  ce : ∀ rows ∈ D.next,∀ row ∈ rows,∀ s ∈ row,0 ≤ s ∧ s < D.next.length

theorem xCN {α : Type} {l : List α} {i : Nat} {a : α} (h : i < l.length) : l.getD i a ∈ l := by
  rw [List.getD_eq_getElem?_getD,List.getElem?_eq_getElem h]
  exact List.getElem_mem _
theorem xFe {v : Int} (h : v ≤ 3) : two v ≤ 8 ∧ 0 < two v := by
  have : v.toNat = 0 ∨ v.toNat = 1 ∨ v.toNat = 2 ∨ v.toNat = 3 := by omega
  unfold two
  rcases this with e | e | e | e <;> rw [e] <;> decide
theorem xJi {v : Int} (h0 : 0 ≤ v) (h : v ≤ 3) : IntKind.i64.wrap (1 * 2 ^ min v.toNat IntKind.i64.bits) = (two v : Nat) := by
  have : v = 0 ∨ v = 1 ∨ v = 2 ∨ v = 3 := by omega
  rcases this with rfl | rfl | rfl | rfl <;> decide

end Go.Abs.Det

/- Check of a valid automaton. -/
namespace Go.Abs.Det
open Go Go.Abs
set_option linter.unusedSimpArgs false
set_option linter.unusedVariables false

section
variable {D : Da} {H : xAv} {s43 s44 s45 s53 s54 s55 : AV}

end

end Go.Abs.Det

/- States of trees; run. -/
namespace Go.Abs.Det
open Go Go.Abs
set_option linter.unusedSimpArgs false
set_option linter.unusedVariables false

def nx (D : Da) (a b : Int) (x : Nat) : Int := ((D.next.getD a.toNat []).getD b.toNat []).getD x 0
theorem yCC {D : Da} (hV : Va D) {a b : Int} {x : Nat} (ha : 0 ≤ a ∧ a < D.next.length) (hb : 0 ≤ b ∧ b < D.next.length) (hx : x < two D.vars) : 0 ≤ nx D a b x ∧ nx D a b x < D.next.length := by
  have h1 := xCN (a := ([] : List (List Int))) (show a.toNat < D.next.length by omega)
  have h2 := xCN (a := ([] : List Int)) (show b.toNat < (D.next.getD a.toNat []).length by rw [hV.rl _ h1]; omega)
  have h3 := xCN (a := (0 : Int)) (show x < ((D.next.getD a.toNat []).getD b.toNat []).length by rw [hV.cl _ h1 _ h2]; omega)
  exact hV.ce _ h1 _ h2 _ h3
end Go.Abs.Det

/- run; both; Run. -/
namespace Go.Abs.Det
open Go Go.Abs
set_option linter.unusedSimpArgs false
set_option linter.unusedVariables false

end Go.Abs.Det

/- Run; EqualInts; CopyInts; the part of the law's automaton as data. -/
namespace Go.Abs.Det
open Go Go.Abs
set_option linter.unusedSimpArgs false
set_option linter.unusedVariables false

theorem xGi {l : List Int} {z z' : Bool} {s4 : AV} {H : xAv} (hl : l.length < 1099511627776) : ∀ d i,i + d = l.length →
    L.loop xJD xQs ⟨xId (iw z l) (iw z' l) s4 (.int .i64 (i : Nat)),H⟩ = some (.exit 0,⟨xId (iw z l) (iw z' l) s4 (.int .i64 (l.length : Nat)),H⟩)
  | 0,i,h => by
    obtain rfl : i = l.length := by omega
    rw [xK6]
    simp (maxSteps := 30000000) (disch := first | assumption | omega | (simp only [List.length_cons,List.length_nil,List.length_append,List.length_set,List.length_replicate,List.length_map,List.length_range,List.length_take,List.length_drop,List.all_cons,List.all_nil,AV.isCell,Bool.and_self,Bool.and_true,xAh,xAb,xAe,xAa,xAa,xAJ,List.length_map,xDe] <;> omega) | rfl | decide) only [xIc,xAq,xAf,xAc,xAk,xAz,opv,List.getD_cons_succ,List.getD_cons_zero,xAr,List.set_cons_succ,List.set_cons_zero,xAi,xA3,xA4,xAm,xAB,xAw,Int.lt_irrefl,decide_false,xAg,xAj,xAd,xAp,xAl,Bool.false_eq_true,↓reduceIte,xBm,xA6,xAX,xHy]
  | d + 1,i,h => by
    have hlt : (i : Int) < (l.length : Nat) := by omega
    have ih := xGi (z := z) (z' := z') (s4 := s4) (H := H) hl d (i + 1) (by omega)
    rw [xK6]
    simp (maxSteps := 30000000) (disch := first | assumption | omega | (simp only [List.length_cons,List.length_nil,List.length_append,List.length_set,List.length_replicate,List.length_map,List.length_range,List.length_take,List.length_drop,List.all_cons,List.all_nil,AV.isCell,Bool.and_self,Bool.and_true,xAh,xAb,xAe,xAa,xAa,xAJ,List.length_map,xDe] <;> omega) | rfl | decide) only [xIc,xAq,xAf,xAc,xAk,xAz,opv,List.getD_cons_succ,List.getD_cons_zero,xAr,List.set_cons_succ,List.set_cons_zero,xAi,xA3,xA4,xAm,xAB,xAw,hlt,decide_true,xAg,xAj,xAd,xAp,xAl,↓reduceIte,xAx,xAs,xBt,List.take_succ_cons,List.take_zero,xAU,xA5,xB4,xBj,xBp,xBd,xBL,xAW,xAY,Int.toNat_natCast,Nat.mul_one,xBE,xAH,xBn,xB1,xBR,xCu,xBW,Nat.add_zero,xAM,xA2,xBc,List.drop_succ_cons,List.drop_zero,xCf,xBo,xBy,Bool.not_true,Bool.false_eq_true,xAt,xBf,xB6,xCQ,xAy,xHy,ih]
theorem xJj (z z' : Bool) (l : List Int) (hl : l.length < 1099511627776) : L.pcall 20 [iw z l,iw z' l] = some (.bool true) := by
  have ih := fun s4 => xGi (z := z) (z' := z') (s4 := s4) (H := []) hl l.length 0 (by omega)
  simp only [Int.natCast_zero] at ih
  rw [yAx,a20,xBA]
  simp (maxSteps := 30000000) (disch := first | assumption | omega | (simp only [List.length_cons,List.length_nil,List.length_append,List.length_set,List.length_replicate,List.length_map,List.length_range,List.length_take,List.length_drop,List.all_cons,List.all_nil,AV.isCell,Bool.and_self,Bool.and_true,xAh,xAb,xAe,xAa,xAa,xAJ,List.length_map,xDe] <;> omega) | rfl | decide) only [xAT,List.length_cons,List.length_nil,Nat.zero_add,Nat.reduceAdd,Nat.reduceSub,xCF,List.cons_append,List.nil_append,xAq,xAf,xAc,xAk,xAz,opv,xAr,List.set_cons_succ,List.set_cons_zero,xAi,xAg,xAj,xAd,List.getD_cons_zero,xA3,List.getD_cons_succ,xA4,xAm,xAB,xBy,decide_true,Bool.not_true,xAp,xAl,Bool.false_eq_true,↓reduceIte,xAx,xAs,xA7,xHy,ih,xAR,xA0,xAP,xAV,xBk,xAD,xAS,xBP,xCr]
end Go.Abs.Det
