/- Trees as lists of nodes. -/
import Derived.Test.YtdkbhidfiplncaaAD1
namespace Go.Abs.Det
open Go Go.Abs
set_option linter.unusedSimpArgs false
set_option linter.unusedVariables false

def BT.size : BT → Nat
  | .nil => 0
  | .node _ l r => 1 + (l.size + r.size)
def rootI (m : Nat) : BT → Int
  | .nil => -1
  | .node _ _ _ => (m : Nat)
/-- the block of a tree whose first node lies at m -/
def encT (m : Nat) : BT → List Lf
  | .nil => []
  | .node x l r => ⟨x, rootI (m + 1) l, rootI (m + 1 + l.size) r⟩ :: (encT (m + 1) l ++ encT (m + 1 + l.size) r)
theorem encT_length : ∀ (T : BT) (m : Nat), (encT m T).length = T.size
  | .nil, m => rfl
  | .node x l r, m => by
    rw [encT, List.length_cons, List.length_append, encT_length l, encT_length r, BT.size]; omega

theorem sub_enc {t : List Lf} {c : Int} {m n : Nat} {T : BT} (h : Sub t c m T n) : c = rootI m T ∧ n = m + T.size ∧ (t.drop m).take T.size = encT m T := by
  induction h with
  | none m => exact ⟨rfl, rfl, by simp [BT.size, encT]⟩
  | @some m k n l r hm hl hr ihl ihr =>
    obtain ⟨l1, rfl, l3⟩ := ihl
    obtain ⟨r1, rfl, r3⟩ := ihr
    refine ⟨rfl, by rw [BT.size]; omega, ?_⟩
    rw [drop_getF hm, BT.size, show 1 + (l.size + r.size) = (l.size + r.size) + 1 by omega, List.take_succ_cons, List.take_add, List.drop_drop, l3, r3, encT, ← l1, ← r1]

theorem formed_enc {t : List Lf} {T : BT} (h : Formed t T) : t = encT 0 T ∧ T.size ≤ 31 := by
  rcases h with ⟨rfl, rfl⟩ | ⟨h1, h2⟩
  · exact ⟨rfl, by simp [BT.size]⟩
  · obtain ⟨-, e, h3⟩ := sub_enc h2
    rw [List.drop_zero, List.take_of_length_le (by omega)] at h3
    exact ⟨h3, by omega⟩

theorem enc_sub : ∀ (T : BT) (A B : List Lf), Sub (A ++ encT A.length T ++ B) (rootI A.length T) A.length T (A.length + T.size)
  | .nil, A, B => .none _
  | .node x l r, A, B => by
    have hl := enc_sub l (A ++ [⟨x, rootI (A.length + 1) l, rootI (A.length + 1 + l.size) r⟩]) (encT (A.length + 1 + l.size) r ++ B)
    have hr := enc_sub r (A ++ ⟨x, rootI (A.length + 1) l, rootI (A.length + 1 + l.size) r⟩ :: encT (A.length + 1) l) B
    have e1 : (A ++ [(⟨x, rootI (A.length + 1) l, rootI (A.length + 1 + l.size) r⟩ : Lf)]).length = A.length + 1 := by simp
    have e2 : (A ++ (⟨x, rootI (A.length + 1) l, rootI (A.length + 1 + l.size) r⟩ : Lf) :: encT (A.length + 1) l).length = A.length + 1 + l.size := by
      rw [List.length_append, List.length_cons, encT_length]; omega
    rw [e1] at hl
    rw [e2] at hr
    have el : A ++ encT A.length (.node x l r) ++ B = A ++ [⟨x, rootI (A.length + 1) l, rootI (A.length + 1 + l.size) r⟩] ++ encT (A.length + 1) l ++ (encT (A.length + 1 + l.size) r ++ B) := by
      simp [encT]
    have er : A ++ encT A.length (.node x l r) ++ B = A ++ ⟨x, rootI (A.length + 1) l, rootI (A.length + 1 + l.size) r⟩ :: encT (A.length + 1) l ++ encT (A.length + 1 + l.size) r ++ B := by
      simp [encT]
    rw [← el] at hl
    rw [← er] at hr
    have hg : (A ++ encT A.length (.node x l r) ++ B).getD A.length f0 = ⟨x, rootI (A.length + 1) l, rootI (A.length + 1 + l.size) r⟩ := by
      simp [encT, List.getD]
    have hm : A.length < (A ++ encT A.length (.node x l r) ++ B).length := by
      simp [encT]
    have := Sub.some (t := A ++ encT A.length (.node x l r) ++ B) hm (by rw [hg]; exact hl) (by rw [hg]; exact hr)
    rw [hg] at this
    rw [BT.size, show A.length + (1 + (l.size + r.size)) = A.length + 1 + l.size + r.size by omega]
    exact this

theorem enc_formed {T : BT} (h : T.size ≤ 31) : Formed (encT 0 T) T := by
  cases T with
  | nil => exact .inl ⟨rfl, rfl⟩
  | node x l r =>
    have := enc_sub (.node x l r) [] []
    rw [List.append_nil, List.nil_append] at this
    exact .inr ⟨by rw [encT_length]; exact h, by rw [encT_length]; simpa [rootI] using this⟩

theorem sub_uniq {t : List Lf} {c : Int} {m n : Nat} {T : BT} (h : Sub t c m T n) : ∀ {T' : BT} {n' : Nat}, Sub t c m T' n' → T = T' ∧ n = n' := by
  induction h with
  | none m =>
    intro T' n' h'
    rcases sub_cases h' with ⟨_, rfl, rfl⟩ | ⟨h, _⟩
    · exact ⟨rfl, rfl⟩
    · omega
  | @some m k n l r hm hl hr ihl ihr =>
    intro T' n' h'
    generalize hc : (m : Int) = c at h'
    cases h' with
    | none m => omega
    | some hm' hl' hr' =>
      obtain ⟨rfl, rfl⟩ := ihl hl'
      obtain ⟨rfl, rfl⟩ := ihr hr'
      exact ⟨rfl, rfl⟩

theorem formed_uniq {t : List Lf} {T T' : BT} (h : Formed t T) (h' : Formed t T') : T = T' := by
  rcases h with ⟨rfl, rfl⟩ | ⟨_, h⟩
  · rcases h' with ⟨_, rfl⟩ | ⟨_, h'⟩
    · rfl
    · rcases sub_cases h' with ⟨_, _⟩ | ⟨_, h⟩
      · omega
      · simp at h
  · rcases h' with ⟨rfl, rfl⟩ | ⟨_, h'⟩
    · rcases sub_cases h with ⟨_, _⟩ | ⟨_, h⟩
      · omega
      · simp at h
    · exact (sub_uniq h h').1

/-! moving a block -/
def mvI (d i : Int) : Int := if i = -1 then -1 else i + d
def mvL (d : Int) (e : Lf) : Lf := ⟨e.x, mvI d e.l, mvI d e.r⟩
theorem mv_root {m m' : Nat} {d : Int} (h : (m : Int) + d = m') : ∀ T : BT, mvI d (rootI m T) = rootI m' T
  | .nil => rfl
  | .node _ _ _ => by
    have : ¬ ((m : Int) = -1) := by omega
    simp only [rootI, mvI, if_neg this]
    exact h
theorem mv_enc {d : Int} : ∀ (T : BT) (m m' : Nat), (m : Int) + d = m' → (encT m T).map (mvL d) = encT m' T
  | .nil, m, m', h => rfl
  | .node x l r, m, m', h => by
    rw [encT, encT, List.map_cons, List.map_append, mv_enc l (m + 1) (m' + 1) (by omega), mv_enc r (m + 1 + l.size) (m' + 1 + l.size) (by omega)]
    congr 1
    simp only [mvL]
    rw [mv_root (m := m + 1) (m' := m' + 1) (by omega), mv_root (m := m + 1 + l.size) (m' := m' + 1 + l.size) (by omega)]

/-- the indices of a block are small -/
theorem enc_small : ∀ (T : BT) (m : Nat), ∀ e ∈ encT m T, (-1 ≤ e.l ∧ e.l ≤ (m + T.size : Nat)) ∧ (-1 ≤ e.r ∧ e.r ≤ (m + T.size : Nat))
  | .nil, m, e, he => by simp [encT] at he
  | .node x l r, m, e, he => by
    have g : ∀ (T : BT) (k : Nat), -1 ≤ rootI k T ∧ (rootI k T ≤ (k : Nat)) := fun T k => by cases T <;> simp [rootI] <;> omega
    rw [encT, List.mem_cons, List.mem_append] at he
    rcases he with rfl | he | he
    · have g1 := g l (m + 1)
      have g2 := g r (m + 1 + l.size)
      have hl : l = .nil ∨ 0 < l.size := by cases l <;> simp [BT.size]; omega
      have hr : r = .nil ∨ 0 < r.size := by cases r <;> simp [BT.size]; omega
      simp only [BT.size]
      refine ⟨⟨g1.1, ?_⟩, ⟨g2.1, ?_⟩⟩
      · rcases hl with rfl | hl
        · simp only [rootI]; omega
        · omega
      · rcases hr with rfl | hr
        · simp only [rootI]; omega
        · omega
    · have := enc_small l (m + 1) e he
      simp only [BT.size]
      omega
    · have := enc_small r (m + 1 + l.size) e he
      simp only [BT.size]
      omega

def BT.labs (p : Nat → Prop) : BT → Prop
  | .nil => True
  | .node x l r => p x ∧ l.labs p ∧ r.labs p
theorem enc_labs {p : Nat → Prop} : ∀ (T : BT) (m : Nat), (∀ e ∈ encT m T, p e.x) ↔ T.labs p
  | .nil, m => by simp [encT, BT.labs]
  | .node x l r, m => by
    have hl := enc_labs (p := p) l (m + 1)
    have hr := enc_labs (p := p) r (m + 1 + l.size)
    rw [BT.labs, ← hl, ← hr, encT]
    simp only [List.mem_cons, List.mem_append]
    constructor
    · intro h
      exact ⟨h _ (.inl rfl), fun e he => h e (.inr (.inl he)), fun e he => h e (.inr (.inr he))⟩
    · rintro ⟨h1, h2, h3⟩ e (rfl | he | he)
      · exact h1
      · exact h2 e he
      · exact h3 e he
theorem BT.labs_iff {p q : Nat → Prop} (h : ∀ x, p x ↔ q x) : ∀ T : BT, T.labs p ↔ T.labs q
  | .nil => Iff.rfl
  | .node x l r => by rw [BT.labs, BT.labs, h x, BT.labs_iff h l, BT.labs_iff h r]

/-! mirrors -/
def BT.mir : BT → BT
  | .nil => .nil
  | .node x l r => .node x r.mir l.mir
theorem BT.mir_size : ∀ T : BT, T.mir.size = T.size
  | .nil => rfl
  | .node x l r => by rw [BT.mir, BT.size, BT.size, mir_size l, mir_size r]; omega
theorem BT.mir_labs {p : Nat → Prop} : ∀ T : BT, T.mir.labs p ↔ T.labs p
  | .nil => Iff.rfl
  | .node x l r => by
    rw [BT.mir, BT.labs, BT.labs, mir_labs l, mir_labs r]
    exact ⟨fun ⟨a, b, c⟩ => ⟨a, c, b⟩, fun ⟨a, b, c⟩ => ⟨a, c, b⟩⟩
end Go.Abs.Det
