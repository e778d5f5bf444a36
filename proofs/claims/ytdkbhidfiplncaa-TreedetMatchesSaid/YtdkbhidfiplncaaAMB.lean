/- Lists of cells under way,some cells an element: a push,and what is frozen. -/
import Derived.Test.YtdkbhidfiplncaaAMA
import Derived.Test.YtdkbhidfiplncaaAbsBun
import Derived.Test.YtdkbhidfiplncaaAbsWalk2
namespace Go.Abs.Det
open Go Go.Abs
set_option linter.unusedSimpArgs false
set_option linter.unusedVariables false
def LstE (es B : Nat) (H : xAc) (v : AV) (n : Nat) (cs : List AV) : Prop :=
 (n = 0 ∧ cs = [] ∧ v = .sl true 0 []) ∨ ∃ id,v = .own false id 0 n es ∧ H[id]? = some (.cells false false cs) ∧ B ≤ id ∧ n ≠ 0 ∧ cs.length = n * es
theorem LstE.nil (es B : Nat) (H : xAc) : LstE es B H (.sl true 0 []) 0 [] := .inl ⟨rfl,rfl,rfl⟩
theorem LstE.inb {es B n : Nat} {H : xAc} {v : AV} {cs : List AV} (h : LstE es B H v n cs) {b : Nat} (hb : At v b) : b < H.length ∧ B ≤ b := by
 obtain ⟨z,o,n',es',e⟩ := hb
 rcases h with ⟨_,_,rfl⟩ | ⟨id,rfl,hi,hb,_⟩
 ·cases e
 ·cases e; exact ⟨(List.getElem?_eq_some_iff.1 hi).1,hb⟩
theorem LstE.other {es B n : Nat} {H H' : xAc} {v : AV} {cs : List AV} (h : LstE es B H v n cs) (hk : ∀ b,At v b → H'[b]? = H[b]?) : LstE es B H' v n cs := by
 rcases h with h | ⟨id,e,hi,hb,h0⟩
 ·exact .inl h
 ·exact .inr ⟨id,e,(hk id ⟨_,_,_,_,e⟩).trans hi,hb,h0⟩
theorem LstE.push {es B n : Nat} {H : xAc} {v : AV} {cs : List AV} (h : LstE es B H v n cs) (c : List AV) (hc : c.length = es) {bytes : Nat} (hr : (n + 1) * bytes ≤ 140737488355328) (hr2 : n + 1 ≤ 140737488355328) (hB : B ≤ H.length) :
  ∃ v' H',xQQ false es bytes H v (some (1,c)) = some (v',H') ∧ LstE es B H' v' (n + 1) (cs ++ c) ∧ Kp B H H' ∧ (∀ b,b < H.length → ¬ At v b → H'[b]? = H[b]?) ∧ (∀ b,At v' b → b = H.length) ∧ ∃ id n,v' = .own false id 0 n es := by
 rcases h with ⟨rfl,rfl,rfl⟩ | ⟨id,rfl,hi,hb,h0,hl⟩
 ·refine ⟨.own false H.length 0 1 es,H ++ [.cells false false c],?_,.inr ⟨H.length,rfl,by simp,hB,by omega,by simpa using hc⟩,⟨by simp,fun b hb => List.getElem?_append_left (by omega)⟩,fun b hb _ => List.getElem?_append_left hb,fun b hb => ?_,_,_,rfl⟩
  ·rw [xES (by simpa using hr) (by omega)]
   rfl
  ·obtain ⟨z,o,n,es,e⟩ := hb; cases e; rfl
 ·refine ⟨.own false H.length 0 (n + 1) es,H.set id .dead ++ [.cells false false (cs ++ c)],?_,.inr ⟨H.length,by simp,?_,by omega,by omega,by rw [List.length_append,hl,hc,Nat.add_mul,Nat.one_mul]⟩,⟨by simp,fun b hb' => ?_⟩,fun b hb hn => ?_,fun b hb => ?_,_,_,rfl⟩
  ·rw [xGA,hi]
   show (if _ then _ else _) = _
   rw [if_pos ⟨by omega,hr,hr2⟩,← hl,List.take_length]
   rfl
  ·rw [List.getElem?_append_right (by simp)]; simp
  ·have := (List.getElem?_eq_some_iff.1 hi).1
   rw [List.getElem?_append_left (by simp; omega),List.getElem?_set_ne (by omega)]
  ·rw [List.getElem?_append_left (by simpa using hb),List.getElem?_set_ne (by rintro rfl; exact hn ⟨_,_,_,_,rfl⟩)]
  ·obtain ⟨z,o,n,es,e⟩ := hb; cases e; rfl
theorem LstE.dat {es B n : Nat} {H : xAc} {v : AV} {cs : List AV} (h : LstE es B H v n cs) (hd : cs.all xAX = true) (d : Nat) : frz (d + 1) H v = some (.sl (n == 0) n cs) := by
 rcases h with ⟨rfl,rfl,rfl⟩ | ⟨id,rfl,hi,hb,h0,hl⟩
 ·rfl
 ·have hz : (n == 0) = false := by rw [beq_eq_false_iff_ne]; exact h0
  obtain ⟨a1,a2⟩ := xEA (d := d) (G := H) hd
  have htk : (cs.drop 0).take (n * es) = cs := by rw [List.drop_zero,← hl,List.take_length]
  rw [hz]
  simp only [frz,hi,htk,a1]
  rw [if_pos (by omega)]
  rfl
def BT.size : BT → Nat
 | .nil => 0
 | .node _ l r => 1 + (l.size + r.size)
def xBE (m : Nat) : BT → Int
 | .nil => -1
 | .node _ _ _ => (m : Nat)
def xBj (m : Nat) : BT → List Lf
 | .nil => []
 | .node x l r => ⟨x,xBE (m + 1) l,xBE (m + 1 + l.size) r⟩ :: (xBj (m + 1) l ++ xBj (m + 1 + l.size) r)
theorem xAS : ∀ (T : BT) (m : Nat),(xBj m T).length = T.size
 | .nil,m => rfl
 | .node x l r,m => by
  rw [xBj,List.length_cons,List.length_append,xAS l,xAS r,BT.size]; omega
theorem yEG {t : List Lf} {c : Int} {m n : Nat} {T : BT} (h : Sub t c m T n) : c = xBE m T ∧ n = m + T.size ∧ (t.drop m).take T.size = xBj m T := by
 induction h with
 | none m => exact ⟨rfl,rfl,by simp [BT.size,xBj]⟩
 | @some m k n l r hm hl hr ihl ihr =>
  obtain ⟨l1,rfl,l3⟩ := ihl
  obtain ⟨r1,rfl,r3⟩ := ihr
  refine ⟨rfl,by rw [BT.size]; omega,?_⟩
  rw [xI5 hm,BT.size,show 1 + (l.size + r.size) = (l.size + r.size) + 1 by omega,List.take_succ_cons,List.take_add,List.drop_drop,l3,r3,xBj,← l1,← r1]
theorem xVg {t : List Lf} {T : BT} (h : Formed t T) : t = xBj 0 T ∧ T.size ≤ 31 := by
 rcases h with ⟨rfl,rfl⟩ | ⟨h1,h2⟩
 ·exact ⟨rfl,by simp [BT.size]⟩
 ·obtain ⟨-,e,h3⟩ := yEG h2
  rw [List.drop_zero,List.take_of_length_le (by omega)] at h3
  exact ⟨h3,by omega⟩
theorem xRh : ∀ (T : BT) (A B : List Lf),Sub (A ++ xBj A.length T ++ B) (xBE A.length T) A.length T (A.length + T.size)
 | .nil,A,B => .none _
 | .node x l r,A,B => by
  have hl := xRh l (A ++ [⟨x,xBE (A.length + 1) l,xBE (A.length + 1 + l.size) r⟩]) (xBj (A.length + 1 + l.size) r ++ B)
  have hr := xRh r (A ++ ⟨x,xBE (A.length + 1) l,xBE (A.length + 1 + l.size) r⟩ :: xBj (A.length + 1) l) B
  have e1 : (A ++ [(⟨x,xBE (A.length + 1) l,xBE (A.length + 1 + l.size) r⟩ : Lf)]).length = A.length + 1 := by simp
  have e2 : (A ++ (⟨x,xBE (A.length + 1) l,xBE (A.length + 1 + l.size) r⟩ : Lf) :: xBj (A.length + 1) l).length = A.length + 1 + l.size := by
   rw [List.length_append,List.length_cons,xAS]; omega
  rw [e1] at hl
  rw [e2] at hr
  have el : A ++ xBj A.length (.node x l r) ++ B = A ++ [⟨x,xBE (A.length + 1) l,xBE (A.length + 1 + l.size) r⟩] ++ xBj (A.length + 1) l ++ (xBj (A.length + 1 + l.size) r ++ B) := by
   simp [xBj]
  have er : A ++ xBj A.length (.node x l r) ++ B = A ++ ⟨x,xBE (A.length + 1) l,xBE (A.length + 1 + l.size) r⟩ :: xBj (A.length + 1) l ++ xBj (A.length + 1 + l.size) r ++ B := by
   simp [xBj]
  rw [← el] at hl
  rw [← er] at hr
  have hg : (A ++ xBj A.length (.node x l r) ++ B).getD A.length f0 = ⟨x,xBE (A.length + 1) l,xBE (A.length + 1 + l.size) r⟩ := by
   simp [xBj,List.getD]
  have hm : A.length < (A ++ xBj A.length (.node x l r) ++ B).length := by
   simp [xBj]
  have := Sub.some (t := A ++ xBj A.length (.node x l r) ++ B) hm (by rw [hg]; exact hl) (by rw [hg]; exact hr)
  rw [hg] at this
  rw [BT.size,show A.length + (1 + (l.size + r.size)) = A.length + 1 + l.size + r.size by omega]
  exact this
theorem xVh {T : BT} (h : T.size ≤ 31) : Formed (xBj 0 T) T := by
 cases T with
 | nil => exact .inl ⟨rfl,rfl⟩
 | node x l r =>
  have := xRh (.node x l r) [] []
  rw [List.append_nil,List.nil_append] at this
  exact .inr ⟨by rw [xAS]; exact h,by rw [xAS]; simpa [xBE] using this⟩
def BT.labs (p : Nat → Prop) : BT → Prop
 | .nil => True
 | .node x l r => p x ∧ l.labs p ∧ r.labs p
theorem xCf {p : Nat → Prop} : ∀ (T : BT) (m : Nat),(∀ e ∈ xBj m T,p e.x) ↔ T.labs p
 | .nil,m => by simp [xBj,BT.labs]
 | .node x l r,m => by
  have hl := xCf (p := p) l (m + 1)
  have hr := xCf (p := p) r (m + 1 + l.size)
  rw [BT.labs,← hl,← hr,xBj]
  simp only [List.mem_cons,List.mem_append]
  constructor
  ·intro h
   exact ⟨h _ (.inl rfl),fun e he => h e (.inr (.inl he)),fun e he => h e (.inr (.inr he))⟩
  ·rintro ⟨h1,h2,h3⟩ e (rfl | he | he)
   ·exact h1
   ·exact h2 e he
   ·exact h3 e he
theorem yEH (d : Nat) (H : xAc) (l : List Lf) : (lfs l).mapM (frz d H) = some (lfs l) := by
 induction l with
 | nil => rfl
 | cons e l ih =>
  have : lfs (e :: l) = .int .u8 (e.x : Nat) :: .int .i64 e.l :: .int .i64 e.r :: lfs l := rfl
  rw [this]
  simp only [List.mapM_cons,xCy,ih]
  rfl
theorem yGx (z : Bool) (l : List Lf) (hl : l.length < 1099511627776) : L.pcall 13 [tw z l] = some (tw (l.length == 0) l) := by
 have htk : List.take (l.length * 3) (lfs l) = lfs l := List.take_of_length_le (by rw [xAe]; omega)
 rw [yJi,a13,xAf]
 simp (maxSteps := 30000000) (disch := first | assumption | omega | (simp only [WL,AV.isCell,xAe] <;> omega) | rfl | decide) only [WB,Nat.reduceSub,xAY,htk,yEH]
theorem xYB (a b : List Bool) : bools a ++ bools b = bools (a ++ b) := by simp [bools]
theorem xLo (l : List Bool) : (bools l).all xAX = true := by
 induction l with
 | nil => rfl
 | cons a l ih => simp [bools,xAX]
def two (v : Int) : Nat := 2 ^ v.toNat
theorem xD1 {fn : AFunc} {args : List AV} {r v : AV} {H : xAc} (h : xA3 L fn args [] = some (r,H)) (hf : frz frzN H r = some v) : xAy L fn args = some v := by
 unfold xAy; rw [h]; exact hf
structure Da where
 vars : Int
 empty : Int
 next : List (List (List Int))
 fin : List Bool
def rowsD (l : List (List Int)) : AV := .sl false l.length (l.map rowT)
def Da.cells (D : Da) : List AV := [.int .i64 D.vars,.int .i64 D.empty,.sl false D.next.length (D.next.map rowsD),.sl false D.fin.length (bools D.fin)]
def Da.av (D : Da) : AV := .agg D.cells
theorem xBy {l : List (List Int)} {i : Nat} (h : i < l.length) : List.take 1 (List.drop i (l.map rowT)) = [rowT (l.getD i [])] := xAr _ _ h
theorem xA2 {l : List (List (List Int))} {i : Nat} (h : i < l.length) : List.take 1 (List.drop i (l.map rowsD)) = [rowsD (l.getD i [])] := xAr _ _ h
structure Va (D : Da) : Prop where
 v0 : 0 ≤ D.vars
 v3 : D.vars ≤ 3
 n0 : 0 < D.next.length
 n64 : D.next.length ≤ 64
 fl : D.fin.length = D.next.length
 e0 : 0 ≤ D.empty
 en : D.empty < D.next.length
 rl : ∀ rows ∈ D.next,rows.length = D.next.length
 cl : ∀ rows ∈ D.next,∀ row ∈ rows,row.length = two D.vars
 ce : ∀ rows ∈ D.next,∀ row ∈ rows,∀ s ∈ row,0 ≤ s ∧ s < D.next.length
theorem xAl {α : Type} {l : List α} {i : Nat} {a : α} (h : i < l.length) : l.getD i a ∈ l := by
 rw [List.getD_eq_getElem?_getD,List.getElem?_eq_getElem h]
 exact List.getElem_mem _
theorem xAV {v : Int} (h : v ≤ 3) : two v ≤ 8 ∧ 0 < two v := by
 have : v.toNat = 0 ∨ v.toNat = 1 ∨ v.toNat = 2 ∨ v.toNat = 3 := by omega
 unfold two
 rcases this with e | e | e | e <;> rw [e] <;> decide
theorem xBU {v : Int} (h0 : 0 ≤ v) (h : v ≤ 3) : IntKind.i64.wrap (1 * 2 ^ min v.toNat IntKind.i64.bits) = (two v : Nat) := by
 have : v = 0 ∨ v = 1 ∨ v = 2 ∨ v = 3 := by omega
 rcases this with rfl | rfl | rfl | rfl <;> decide
theorem xMq {k : Nat} {s : Int} {n : Nat} {H : xAc} (h : H[k]? = some (.cells false false [.int .i64 (n : Nat)])) : L.icall (.func 52 [.ptr k 0]) [.int .i64 s] H = some (.bool (decide (0 ≤ s ∧ s < (n : Nat))),H) := by
 rw [yJr,a52]
 by_cases c : 0 ≤ s
 ·by_cases c2 : s < (n : Nat)
  ·rw [decide_eq_true ⟨c,c2⟩]
   simp (maxSteps := 30000000) (disch := first | assumption | omega | (simp only [WL,AV.isCell,xAa] <;> omega) | rfl | decide) only [WB,Nat.reduceAdd,Nat.reduceSub,c,↓reduceIte,h,c2]
  ·rw [decide_eq_false (by omega)]
   simp (maxSteps := 30000000) (disch := first | assumption | omega | (simp only [WL,AV.isCell,xAa] <;> omega) | rfl | decide) only [WB,Nat.reduceAdd,Nat.reduceSub,c,↓reduceIte,h,c2]
 ·rw [decide_eq_false (by omega)]
  simp (maxSteps := 30000000) (disch := first | assumption | omega | (simp only [WL,AV.isCell,xAa] <;> omega) | rfl | decide) only [WB,Nat.reduceAdd,Nat.reduceSub,c,↓reduceIte]
section
variable {D : Da} {H : xAc} {s43 s44 s45 s53 s54 s55 : AV}
theorem yEI {row : List Int} (hl : row.length ≤ 8) (h1 : H[1]? = some (.cells false false [.int .i64 (D.next.length : Nat)])) (hs : ∀ s ∈ row,0 ≤ s ∧ s < D.next.length) : ∀ e i,i + e = row.length →
  L.loop xJA xVD ⟨xFY (.ptr 0 0) (.int .i64 0) (.ptr 1 0) (.func 52 [.ptr 1 0]) s43 s44 s45 s53 s54 s55 (.sl false row.length (ints row)) (.int .i64 (row.length : Nat)) (.int .i64 (i : Nat)),H⟩ =
   some (.exit 5,⟨xFY (.ptr 0 0) (.int .i64 0) (.ptr 1 0) (.func 52 [.ptr 1 0]) s43 s44 s45 s53 s54 s55 (.sl false row.length (ints row)) (.int .i64 (row.length : Nat)) (.int .i64 (row.length : Nat)),H⟩) := by
 intro e
 induction e with
 | zero =>
  intro i h
  obtain rfl : i = row.length := by omega
  rw [xMM]
  simp (maxSteps := 30000000) (disch := first | assumption | omega | (simp only [WL,AV.isCell,xAa] <;> omega) | rfl | decide) only [xFX,WB,↓reduceIte,xEc]
 | succ e ih =>
  intro i h
  have hlt : (i : Int) < (row.length : Nat) := by omega
  have ih' := ih (i + 1) (by omega)
  have hs' := hs _ (xAl (a := 0) (show i < row.length by omega))
  have h52 := xMq (s := row.getD i 0) h1
  rw [decide_eq_true hs'] at h52
  rw [xMM]
  simp (maxSteps := 30000000) (disch := first | assumption | omega | (simp only [WL,AV.isCell,xAa] <;> omega) | rfl | decide) only [xFX,WB,hlt,↓reduceIte,W2,h52,xEc,ih']
theorem yBn {rows : List (List Int)} (hv0 : 0 ≤ D.vars) (hv3 : D.vars ≤ 3) (hl : rows.length ≤ 64) (h0 : H[0]? = some (.cells false false D.cells)) (h1 : H[1]? = some (.cells false false [.int .i64 (D.next.length : Nat)]))
  (hc : ∀ row ∈ rows,row.length = two D.vars) (hs : ∀ row ∈ rows,∀ s ∈ row,0 ≤ s ∧ s < D.next.length) : ∀ e i,i + e = rows.length →
  L.loop xJB xVE ⟨xFZ (.ptr 0 0) (.int .i64 0) (.ptr 1 0) (.func 52 [.ptr 1 0]) s43 s44 s45 (.sl false rows.length (rows.map rowT)) (.int .i64 (rows.length : Nat)) (.int .i64 (i : Nat)),H⟩ =
   some (.exit 3,⟨xFZ (.ptr 0 0) (.int .i64 0) (.ptr 1 0) (.func 52 [.ptr 1 0]) s43 s44 s45 (.sl false rows.length (rows.map rowT)) (.int .i64 (rows.length : Nat)) (.int .i64 (rows.length : Nat)),H⟩) := by
 intro e
 induction e with
 | zero =>
  intro i h
  obtain rfl : i = rows.length := by omega
  rw [xJC]
  simp (maxSteps := 30000000) (disch := first | assumption | omega | (simp only [WL,AV.isCell,xAa] <;> omega) | rfl | decide) only [xEI,WB,↓reduceIte,xDp]
 | succ e ih =>
  intro i h
  have hlt : (i : Int) < (rows.length : Nat) := by omega
  have ih' := ih (i + 1) (by omega)
  have hm := xAl (a := ([] : List Int)) (show i < rows.length by omega)
  have hr := yEI (D := D) (H := H) (s43 := s43) (s44 := s44) (s45 := s45) (s53 := .sl false rows.length (rows.map rowT)) (s54 := .int .i64 (rows.length : Nat)) (s55 := .int .i64 (i : Nat)) (by rw [hc _ hm]; exact (xAV hv3).1) h1 (hs _ hm) (rows.getD i []).length 0 (by omega)
  have hcl := hc _ hm
  have hsh := xBU hv0 hv3
  have hv : ¬ D.vars < 0 := by omega
  simp only [Int.natCast_zero] at hr
  unfold Da.cells at h0
  rw [xJC]
  rw [hcl] at hr
  simp (maxSteps := 30000000) (disch := first | assumption | omega | (simp only [WL,AV.isCell,xAa] <;> omega) | rfl | decide) only [xEI,WB,hlt,↓reduceIte,xBy,rowT,hcl,h0,hsh,xEc,hr,xDp,ih']
theorem xVi (hV : Va D) (h0 : H[0]? = some (.cells false false D.cells)) (h1 : H[1]? = some (.cells false false [.int .i64 (D.next.length : Nat)])) : ∀ e i,i + e = D.next.length →
  L.loop xJD xVF ⟨xF0 (.ptr 0 0) (.int .i64 0) (.ptr 1 0) (.func 52 [.ptr 1 0]) (.sl false D.next.length (D.next.map rowsD)) (.int .i64 (D.next.length : Nat)) (.int .i64 (i : Nat)),H⟩ =
   some (.exit 1,⟨xF0 (.ptr 0 0) (.int .i64 0) (.ptr 1 0) (.func 52 [.ptr 1 0]) (.sl false D.next.length (D.next.map rowsD)) (.int .i64 (D.next.length : Nat)) (.int .i64 (D.next.length : Nat)),H⟩) := by
 intro e
 induction e with
 | zero =>
  intro i h
  obtain rfl : i = D.next.length := by omega
  have hn := hV.n64
  rw [xJE]
  simp (maxSteps := 30000000) (disch := first | assumption | omega | (simp only [WL,AV.isCell,xAa] <;> omega) | rfl | decide) only [xEJ,WB,↓reduceIte,xEd]
 | succ e ih =>
  intro i h
  have hlt : (i : Int) < (D.next.length : Nat) := by omega
  have ih' := ih (i + 1) (by omega)
  have hm := xAl (a := ([] : List (List Int))) (show i < D.next.length by omega)
  have hrl := hV.rl _ hm
  have hn := hV.n64
  have hr := yBn (D := D) (H := H) (s43 := .sl false D.next.length (D.next.map rowsD)) (s44 := .int .i64 (D.next.length : Nat)) (s45 := .int .i64 (i : Nat)) hV.v0 hV.v3 (by omega) h0 h1 (hV.cl _ hm) (hV.ce _ hm) (D.next.getD i []).length 0 (by omega)
  simp only [Int.natCast_zero] at hr
  rw [hrl] at hr
  rw [xJE]
  simp (maxSteps := 30000000) (disch := first | assumption | omega | (simp only [WL,AV.isCell,xAa] <;> omega) | rfl | decide) only [xEJ,WB,hlt,↓reduceIte,xA2,rowsD,hrl,h1,xDp,hr,xEd,ih']
end
theorem xD2 (D : Da) (hV : Va D) : L.pcall 14 [D.av] = some (.int .i64 0) := by
 have v0 := hV.v0
 have v3 := hV.v3
 have n0 := hV.n0
 have n64 := hV.n64
 have fl := hV.fl
 have hr := fun T => xVi (H := .cells false false D.cells :: .cells false false [.int .i64 (D.next.length : Nat)] :: T) hV rfl rfl D.next.length 0 (by omega)
 have h52 := fun T => xMq (k := 1) (s := D.empty) (n := D.next.length) (H := .cells false false D.cells :: .cells false false [.int .i64 (D.next.length : Nat)] :: T) rfl
 have e0 := hV.e0
 have en := hV.en
 rw [decide_eq_true ⟨e0,en⟩] at h52
 have c1 : ¬ D.vars < 0 := by omega
 have c2 : ¬ (3 : Int) < D.vars := by omega
 have c3 : (((D.next.length : Nat) : Int) = 0) = False := eq_false (by omega)
 have c4 : ¬ (64 : Int) < (D.next.length : Nat) := by omega
 simp only [Int.natCast_zero] at hr
 unfold Da.cells at hr h52
 simp only [fl] at hr h52
 unfold Da.av Da.cells
 rw [yCt,a14,xAf]
 simp (maxSteps := 30000000) (disch := first | assumption | omega | (simp only [WL,AV.isCell,xAa] <;> omega) | rfl | decide) only [fl,WB,Nat.reduceSub,AV.cells,AV.isCell,↓reduceIte,c1,c2,c3,c4,h52,xEd,hr]
def nx (D : Da) (a b : Int) (x : Nat) : Int := ((D.next.getD a.toNat []).getD b.toNat []).getD x 0
def stB (D : Da) : BT → Int
 | .nil => D.empty
 | .node x l r => nx D (stB D l) (stB D r) x
def stL (D : Da) : BT → List Int
 | .nil => []
 | .node x l r => stB D (.node x l r) :: (stL D l ++ stL D r)
theorem xCH (D : Da) : ∀ T : BT,(stL D T).length = T.size
 | .nil => rfl
 | .node x l r => by rw [stL,List.length_cons,List.length_append,xCH D l,xCH D r,BT.size]; omega
theorem xFT {D : Da} (hV : Va D) {a b : Int} {x : Nat} (ha : 0 ≤ a ∧ a < D.next.length) (hb : 0 ≤ b ∧ b < D.next.length) (hx : x < two D.vars) : 0 ≤ nx D a b x ∧ nx D a b x < D.next.length := by
 have h1 := xAl (a := ([] : List (List Int))) (show a.toNat < D.next.length by omega)
 have h2 := xAl (a := ([] : List Int)) (show b.toNat < (D.next.getD a.toNat []).length by rw [hV.rl _ h1]; omega)
 have h3 := xAl (a := (0 : Int)) (show x < ((D.next.getD a.toNat []).getD b.toNat []).length by rw [hV.cl _ h1 _ h2]; omega)
 exact hV.ce _ h1 _ h2 _ h3
theorem xLp {D : Da} (hV : Va D) : ∀ {T : BT},T.labs (· < two D.vars) → 0 ≤ stB D T ∧ stB D T < D.next.length
 | .nil,_ => ⟨hV.e0,hV.en⟩
 | .node x l r,h => xFT hV (xLp hV h.2.1) (xLp hV h.2.2) h.1
theorem yBo (D : Da) {T : BT} (h : 0 < T.size) : (stL D T).getD 0 0 = stB D T := by
 cases T with
 | nil => simp [BT.size] at h
 | node x l r => rfl
theorem xT0 (D : Da) : ∀ (T : BT) (m : Nat) (S : Nat → Int),(∀ k,k < T.size → S (m + k) = (stL D T).getD k 0) → ∀ k,k < T.size →
  S (m + k) = nx D (if ((xBj m T).getD k f0).l < 0 then D.empty else S ((xBj m T).getD k f0).l.toNat) (if ((xBj m T).getD k f0).r < 0 then D.empty else S ((xBj m T).getD k f0).r.toNat) ((xBj m T).getD k f0).x ∧
  (((xBj m T).getD k f0).l = -1 ∨ (((m + k : Nat) : Int) < ((xBj m T).getD k f0).l ∧ ((xBj m T).getD k f0).l < ((m + T.size : Nat) : Int))) ∧
  (((xBj m T).getD k f0).r = -1 ∨ (((m + k : Nat) : Int) < ((xBj m T).getD k f0).r ∧ ((xBj m T).getD k f0).r < ((m + T.size : Nat) : Int)))
 | .nil,m,S,hS,k,hk => by simp [BT.size] at hk
 | .node x l r,m,S,hS,k,hk => by
  have hsz : (BT.node x l r).size = 1 + (l.size + r.size) := rfl
  have hl1 := xCH D l
  have hr1 := xCH D r
  have el := xAS l (m + 1)
  have er := xAS r (m + 1 + l.size)
  have Sl : ∀ j,j < l.size → S (m + 1 + j) = (stL D l).getD j 0 := fun j hj => by
   rw [show m + 1 + j = m + (j + 1) by omega,hS (j + 1) (by omega),stL,List.getD_cons_succ]
   simp only [List.getD_eq_getElem?_getD]
   rw [List.getElem?_append_left (by omega)]
  have Sr : ∀ j,j < r.size → S (m + 1 + l.size + j) = (stL D r).getD j 0 := fun j hj => by
   rw [show m + 1 + l.size + j = m + (l.size + j + 1) by omega,hS (l.size + j + 1) (by omega),stL,List.getD_cons_succ]
   simp only [List.getD_eq_getElem?_getD]
   rw [List.getElem?_append_right (by omega),hl1]
   congr 2; omega
  cases k with
  | zero =>
   have e0 : (xBj m (.node x l r)).getD 0 f0 = ⟨x,xBE (m + 1) l,xBE (m + 1 + l.size) r⟩ := rfl
   rw [e0,hS 0 (by omega)]
   have q : ∀ (T : BT) (j : Nat),(∀ i,i < T.size → S (j + i) = (stL D T).getD i 0) → (if xBE j T < 0 then D.empty else S (xBE j T).toNat) = stB D T := fun T j hj => by
    cases T with
    | nil => rfl
    | node y a b =>
     have : ¬ ((j : Nat) : Int) < 0 := by omega
     have hr : xBE j (.node y a b) = (j : Nat) := rfl
     rw [hr,if_neg this,Int.toNat_natCast]
     have := hj 0 (by simp [BT.size]; omega)
     rw [Nat.add_zero] at this
     rw [this]; rfl
   refine ⟨?_,?_,?_⟩
   ·show (stL D (.node x l r)).getD 0 0 = nx D (if xBE (m + 1) l < 0 then _ else _) (if xBE (m + 1 + l.size) r < 0 then _ else _) x
    rw [q l (m + 1) Sl,q r (m + 1 + l.size) Sr]
    rfl
   ·cases l with
    | nil => exact .inl rfl
    | node y a b => exact .inr ⟨by simp only [xBE]; omega,by simp only [xBE,BT.size]; omega⟩
   ·cases r with
    | nil => exact .inl rfl
    | node y a b => exact .inr ⟨by simp only [xBE]; omega,by simp only [xBE,BT.size]; omega⟩
  | succ k =>
   by_cases hkl : k < l.size
   ·have e0 : (xBj m (.node x l r)).getD (k + 1) f0 = (xBj (m + 1) l).getD k f0 := by
     rw [xBj,List.getD_cons_succ]
     simp only [List.getD_eq_getElem?_getD]
     rw [List.getElem?_append_left (by omega)]
    obtain ⟨i1,i2,i3⟩ := xT0 D l (m + 1) S Sl k hkl
    rw [e0,show m + (k + 1) = m + 1 + k by omega]
    refine ⟨i1,?_,?_⟩
    ·rcases i2 with q | q
     ·exact .inl q
     ·exact .inr ⟨q.1,by rw [hsz]; omega⟩
    ·rcases i3 with q | q
     ·exact .inl q
     ·exact .inr ⟨q.1,by rw [hsz]; omega⟩
   ·have e0 : (xBj m (.node x l r)).getD (k + 1) f0 = (xBj (m + 1 + l.size) r).getD (k - l.size) f0 := by
     rw [xBj,List.getD_cons_succ]
     simp only [List.getD_eq_getElem?_getD]
     rw [List.getElem?_append_right (by omega),el]
    obtain ⟨i1,i2,i3⟩ := xT0 D r (m + 1 + l.size) S Sr (k - l.size) (by omega)
    have e1 : m + 1 + l.size + (k - l.size) = m + (k + 1) := by omega
    rw [e1] at i1 i2 i3
    rw [e0]
    refine ⟨i1,?_,?_⟩
    ·rcases i2 with q | q
     ·exact .inl q
     ·exact .inr ⟨q.1,by rw [hsz]; omega⟩
    ·rcases i3 with q | q
     ·exact .inl q
     ·exact .inr ⟨q.1,by rw [hsz]; omega⟩
theorem xIX {l : List Lf} {i : Nat} (h : i < l.length) : List.take 1 (List.drop (i * 3) (lfs l)) = [.int .u8 ((l.getD i f0).x : Nat)] := by
 rw [xFl h]; rfl
theorem yGy {c : Int} {n : Nat} {cur : List Int} (hn : cur.length = n + 1) (hn2 : n < 1099511627776) (hc : c < 0 ∨ c < (n : Nat)) :
  L.pcall 100 [.int .i64 c,.vptr [.int .i64 (n : Nat)] 0,.vptr [.sl false (n + 1) (ints cur)] 0] = some (.int .i64 (if c < 0 then cur.getD n 0 else cur.getD c.toNat 0)) := by
 by_cases h : c < 0
 ·rw [if_pos h,yFN,yG7,xAf]
  have hg : List.take 1 (List.drop n (ints cur)) = [.int .i64 (cur.getD n 0)] := xAr _ _ (by omega)
  simp (maxSteps := 30000000) (disch := first | assumption | omega | (simp only [WL,AV.isCell,xAa,xAe] <;> omega) | rfl | decide) only [WB,Nat.reduceAdd,Nat.reduceSub,h,↓reduceIte,W2]
 ·rw [if_neg h,yFN,yG7,xAf]
  have h0 : 0 ≤ c := by omega
  have hg : List.take 1 (List.drop c.toNat (ints cur)) = [.int .i64 (cur.getD c.toNat 0)] := xAr _ _ (by omega)
  simp (maxSteps := 30000000) (disch := first | assumption | omega | (simp only [WL,AV.isCell,xAa,xAe] <;> omega) | rfl | decide) only [WB,Nat.reduceAdd,Nat.reduceSub,h,↓reduceIte,W2]
theorem xYC {D : Da} (hV : Va D) {z : Bool} {t : List Lf} {S : List Int} (ht : t.length ≤ 31) (hS : S.length = t.length + 1) (hx : ∀ e ∈ t,e.x < two D.vars)
  (hend : S.getD t.length 0 = D.empty) (hbd : ∀ s ∈ S,0 ≤ s ∧ s < D.next.length)
  (hrec : ∀ k,k < t.length → S.getD k 0 = nx D (if (t.getD k f0).l < 0 then D.empty else S.getD (t.getD k f0).l.toNat 0) (if (t.getD k f0).r < 0 then D.empty else S.getD (t.getD k f0).r.toNat 0) (t.getD k f0).x ∧
   ((t.getD k f0).l = -1 ∨ ((k : Int) < (t.getD k f0).l ∧ (t.getD k f0).l < (t.length : Nat))) ∧ ((t.getD k f0).r = -1 ∨ ((k : Int) < (t.getD k f0).r ∧ (t.getD k f0).r < (t.length : Nat)))) :
  ∀ i,i ≤ t.length → L.loop xJN xVU ⟨xG4 (tw z t) (.ptr 0 0) (.ptr 3 0) (.func 100 [.ptr 1 0,.ptr 3 0]) (.int .i64 ((i : Nat) - 1)),[.cells false false D.cells,.cells false false [.int .i64 (t.length : Nat)],.cells false false (ints (List.replicate i 0 ++ S.drop i)),.cells false false [.own false 2 0 (t.length + 1) 1]]⟩ =
   some (.exit 0,⟨xG4 (tw z t) (.ptr 0 0) (.ptr 3 0) (.func 100 [.ptr 1 0,.ptr 3 0]) (.int .i64 (-1)),[.cells false false D.cells,.cells false false [.int .i64 (t.length : Nat)],.cells false false (ints S),.cells false false [.own false 2 0 (t.length + 1) 1]]⟩) := by
 intro i
 induction i with
 | zero =>
  intro _
  rw [List.replicate_zero,List.nil_append,List.drop_zero]
  have e1 : (((0 : Nat) : Int) - 1) = -1 := by omega
  rw [e1,yCd]
  simp (maxSteps := 30000000) (disch := first | assumption | omega | (simp only [WL,AV.isCell,xAa,xAe] <;> omega) | rfl | decide) only [xRX,Int.reduceNeg,WB,Int.reduceLE,↓reduceIte,xRY]
 | succ i ih =>
  intro hi
  have ih' := ih (by omega)
  obtain ⟨q1,q2,q3⟩ := hrec i (by omega)
  have e1 : (((i + 1 : Nat) : Int) - 1) = (i : Nat) := by omega
  have hlen : (List.replicate (i + 1) 0 ++ S.drop (i + 1)).length = t.length + 1 := by simp; omega
  have hc0 : ∀ k,i < k → k ≤ t.length → (List.replicate (i + 1) 0 ++ S.drop (i + 1)).getD k 0 = S.getD k 0 := fun k h1 h2 => by
   simp only [List.getD_eq_getElem?_getD]
   rw [List.getElem?_append_right (by simp; omega),List.getElem?_drop]
   congr 2; simp; omega
  have xB8 : ∀ y : Int,y = S.getD i 0 → (List.replicate (i + 1) 0 ++ S.drop (i + 1)).set i y = List.replicate i 0 ++ S.drop i := fun y hy => by
   subst hy
   apply List.ext_getElem?
   intro k
   rw [List.getElem?_set]
   by_cases c : i = k
   ·subst c
    rw [if_pos rfl,if_pos (by rw [hlen]; omega),List.getElem?_append_right (by simp),List.getElem?_drop]
    have : i + (i - (List.replicate i (0 : Int)).length) = i := by simp
    rw [this,List.getD_eq_getElem?_getD,List.getElem?_eq_getElem (by omega)]
    rfl
   ·rw [if_neg c]
    rcases Nat.lt_or_ge k i with h | h
    ·rw [List.getElem?_append_left (by simp; omega),List.getElem?_append_left (by simp; omega),List.getElem?_replicate,List.getElem?_replicate,if_pos (by omega),if_pos h]
    ·rw [List.getElem?_append_right (by simp; omega),List.getElem?_append_right (by simp; omega),List.getElem?_drop,List.getElem?_drop]
     congr 1; simp; omega
  generalize hcur : List.replicate (i + 1) 0 ++ S.drop (i + 1) = cur at *
  have hxi := hx _ (xGL (show i < t.length by omega))
  generalize hL : (if (t.getD i f0).l < 0 then D.empty else S.getD (t.getD i f0).l.toNat 0) = sl at *
  generalize hR : (if (t.getD i f0).r < 0 then D.empty else S.getD (t.getD i f0).r.toNat 0) = sr at *
  have hin : ∀ k,k ≤ t.length → 0 ≤ S.getD k 0 ∧ S.getD k 0 < D.next.length := fun k hk => hbd _ (xAl (by omega))
  have hl1 : L.pcall 100 [.int .i64 (t.getD i f0).l,.vptr [.int .i64 (t.length : Nat)] 0,.vptr [.sl false (t.length + 1) (ints cur)] 0] = some (.int .i64 sl) ∧ 0 ≤ sl ∧ sl < D.next.length := by
   have h := yGy (c := (t.getD i f0).l) hlen (by omega) (by omega)
   rw [h,← hL]
   by_cases c : (t.getD i f0).l < 0
   ·rw [if_pos c,if_pos c,hc0 _ (by omega) (Nat.le_refl _),hend]
    exact ⟨rfl,hV.e0,hV.en⟩
   ·rw [if_neg c,if_neg c,hc0 _ (by omega) (by omega)]
    exact ⟨rfl,hin _ (by omega)⟩
  have hr1 : L.pcall 100 [.int .i64 (t.getD i f0).r,.vptr [.int .i64 (t.length : Nat)] 0,.vptr [.sl false (t.length + 1) (ints cur)] 0] = some (.int .i64 sr) ∧ 0 ≤ sr ∧ sr < D.next.length := by
   have h := yGy (c := (t.getD i f0).r) hlen (by omega) (by omega)
   rw [h,← hR]
   by_cases c : (t.getD i f0).r < 0
   ·rw [if_pos c,if_pos c,hc0 _ (by omega) (Nat.le_refl _),hend]
    exact ⟨rfl,hV.e0,hV.en⟩
   ·rw [if_neg c,if_neg c,hc0 _ (by omega) (by omega)]
    exact ⟨rfl,hin _ (by omega)⟩
  obtain ⟨hl1,hl2⟩ := hl1
  obtain ⟨hr1,hr2⟩ := hr1
  have k1 := xAl (a := ([] : List (List Int))) (show sl.toNat < D.next.length by omega)
  have l1 := hV.rl _ k1
  have k2 := xAl (a := ([] : List Int)) (show sr.toNat < (D.next.getD sl.toNat []).length by omega)
  have l2 := hV.cl _ k1 _ k2
  have hst := xB8 _ q1.symm
  unfold nx at hst
  have n64 := hV.n64
  have htk : List.take (t.length + 1) cur = cur := List.take_of_length_le (by omega)
  have hgc : List.take 1 (List.drop (t.getD i f0).x (ints ((D.next.getD sl.toNat []).getD sr.toNat []))) = [.int .i64 (((D.next.getD sl.toNat []).getD sr.toNat []).getD (t.getD i f0).x 0)] := xAr _ _ (by omega)
  have hge : (0 : Int) ≤ (i : Nat) := by omega
  have hx8 : two D.vars ≤ 8 := (xAV hV.v3).1
  clear hrec xB8 hc0 hin hbd hx
  unfold Da.cells at ih' ⊢
  rw [e1,yCd]
  simp (maxSteps := 30000000) (disch := first | assumption | omega | (simp only [WL,AV.isCell,xAa,xAe] <;> omega) | rfl | decide) only [xRX,WB,hge,↓reduceIte,xBa,xAY,W2,htk,hl1,xA0,xAx,xHR,xA2,rowsD,l1,xBg,hr1,xBy,rowT,l2,xIX,xAj,AV.cells,hst,xRY,ih',Int.reduceNeg]
theorem xQf {D : Da} (hV : Va D) (z : Bool) {T : BT} (ht : T.size ≤ 31) (hx : T.labs (· < two D.vars)) :
  L.loop xJN xVU ⟨xG4 (tw z (xBj 0 T)) (.ptr 0 0) (.ptr 3 0) (.func 100 [.ptr 1 0,.ptr 3 0]) (.int .i64 (((xBj 0 T).length : Nat) - 1)),[.cells false false D.cells,.cells false false [.int .i64 ((xBj 0 T).length : Nat)],.cells false false (ints ((List.replicate (T.size + 1) (0 : Int)).set T.size D.empty)),.cells false false [.own false 2 0 ((xBj 0 T).length + 1) 1]]⟩ =
   some (.exit 0,⟨xG4 (tw z (xBj 0 T)) (.ptr 0 0) (.ptr 3 0) (.func 100 [.ptr 1 0,.ptr 3 0]) (.int .i64 (-1)),[.cells false false D.cells,.cells false false [.int .i64 ((xBj 0 T).length : Nat)],.cells false false (ints (stL D T ++ [D.empty])),.cells false false [.own false 2 0 ((xBj 0 T).length + 1) 1]]⟩) ∧ (xBj 0 T).length = T.size ∧ (stL D T ++ [D.empty]).length = T.size + 1 := by
 have hl := xAS T 0
 have hsl := xCH D T
 have hS : ∀ k,k < T.size → (stL D T ++ [D.empty]).getD k 0 = (stL D T).getD k 0 := fun k hk => by
  simp only [List.getD_eq_getElem?_getD]
  rw [List.getElem?_append_left (by omega)]
 have hE : (stL D T ++ [D.empty]).getD (xBj 0 T).length 0 = D.empty := by
  simp only [List.getD_eq_getElem?_getD]
  rw [List.getElem?_append_right (by omega),hl,hsl,Nat.sub_self]; rfl
 have hbd : ∀ s ∈ stL D T ++ [D.empty],0 ≤ s ∧ s < D.next.length := by
  have key : ∀ T : BT,T.labs (· < two D.vars) → ∀ s ∈ stL D T,0 ≤ s ∧ s < D.next.length := by
   intro T
   induction T with
   | nil => intro _ s hs; cases hs
   | node x l r ihl ihr =>
    intro h s hs
    rw [stL,List.mem_cons,List.mem_append] at hs
    rcases hs with rfl | hs | hs
    ·exact xLp hV h
    ·exact ihl h.2.1 s hs
    ·exact ihr h.2.2 s hs
  intro s hs
  rcases List.mem_append.1 hs with q | q
  ·exact key T hx s q
  ·rw [List.mem_singleton.1 q]; exact ⟨hV.e0,hV.en⟩
 have hrec := fun k (hk : k < (xBj 0 T).length) => by
  have := xT0 D T 0 (fun k => (stL D T ++ [D.empty]).getD k 0) (fun k hk => by rw [Nat.zero_add]; exact hS k hk) k (by omega)
  simp only [Nat.zero_add] at this
  rw [← hl] at this
  exact this
 have h := xYC hV (z := z) (t := xBj 0 T) (S := stL D T ++ [D.empty]) (by omega) (by simp; omega) (fun e he => (xCf T 0).2 hx e he) hE hbd hrec (xBj 0 T).length (Nat.le_refl _)
 have hcur : List.replicate (xBj 0 T).length 0 ++ (stL D T ++ [D.empty]).drop (xBj 0 T).length = (List.replicate (T.size + 1) (0 : Int)).set T.size D.empty := by
  rw [List.drop_append_of_le_length (by omega),List.drop_of_length_le (by omega),hl,List.replicate_succ',List.set_append_right _ _ (by simp)]
  simp
 rw [hcur] at h
 exact ⟨h,hl,by simp [hsl]⟩
theorem yIk {D : Da} (hV : Va D) (z : Bool) {T : BT} (ht : T.size ≤ 31) (hx : T.labs (· < two D.vars)) : L.pcall 54 [D.av,tw z (xBj 0 T)] = some (.sl false (T.size + 1) (ints (stL D T ++ [D.empty]))) := by
 obtain ⟨h,hl,hfl⟩ := xQf hV z ht hx
 generalize stL D T ++ [D.empty] = S at *
 have htk : List.take (T.size + 1) S = S := List.take_of_length_le (by omega)
 unfold tw at h ⊢
 simp only [hl] at h ⊢
 generalize lfs (xBj 0 T) = tl at *
 generalize T.size = n at *
 unfold Da.av
 unfold Da.cells at h ⊢
 rw [yJs,a54,xAf]
 simp (maxSteps := 30000000) (disch := first | assumption | omega | (simp only [WL,AV.isCell,xAa,xAe] <;> omega) | rfl | decide) only [WB,Nat.reduceAdd,Nat.reduceSub,AV.cells,AV.isCell,↓reduceIte,xBp,W2,xRY,h,Int.reduceNeg,xAY,htk]
theorem yGz (D : Da) (z : Bool) (t : List Lf) (e1 e2 : Int) (h1 : L.pcall 14 [D.av] = some (.int .i64 e1)) (h2 : e1 = 0 → L.pcall 99 [tw z t,.int .i64 D.vars] = some (.int .i64 e2)) : L.pcall 53 [D.av,tw z t] = some (.int .i64 (if e1 = 0 then e2 else e1)) := by
 unfold Da.av Da.cells at h1 ⊢
 by_cases c : e1 = 0
 ·have h2' := h2 c
  subst c
  rw [if_pos rfl,yHN,a53,xAf]
  simp (maxSteps := 30000000) (disch := first | assumption | omega | (simp only [WL,AV.isCell,xAa,xAe] <;> omega) | rfl | decide) only [WB,Nat.reduceAdd,Nat.reduceSub,AV.cells,AV.isCell,↓reduceIte,h1,xA0,xAx,h2']
 ·rw [if_neg c,yHN,a53,xAf]
  simp (maxSteps := 30000000) (disch := first | assumption | omega | (simp only [WL,AV.isCell,xAa,xAe] <;> omega) | rfl | decide) only [WB,Nat.reduceAdd,Nat.reduceSub,AV.cells,AV.isCell,↓reduceIte,h1,xA0,xAx,c]
theorem xD3 {D : Da} (hV : Va D) (z : Bool) (t : List Lf) (hl : t.length < 1099511627776) (hx : ∀ e ∈ t,e.x < 256) : L.pcall 53 [D.av,tw z t] = some (.int .i64 (xCJ t D.vars.toNat)) := by
 have v0 := hV.v0
 have v3 := hV.v3
 have h := yGz D z t 0 (xCJ t D.vars.toNat) (xD2 D hV) (fun _ => by
  have := xYW z t D.vars.toNat (by omega) hl hx
  rwa [Int.toNat_of_nonneg v0] at this)
 exact h
theorem xYD {v : Int} {x : Nat} (h0 : 0 ≤ v) : x >>> v.toNat = 0 ↔ x < two v := by
 unfold two
 rw [Nat.shiftRight_eq_div_pow]
 exact Nat.div_eq_zero_iff_lt (Nat.two_pow_pos _)
theorem xFi {t : List Lf} {v : Int} (h0 : 0 ≤ v) : xCJ t v.toNat = 0 ↔ ∃ T,t = xBj 0 T ∧ T.size ≤ 31 ∧ T.labs (· < two v) := by
 unfold xCJ
 constructor
 ·intro h
  split at h
  ·omega
  split at h
  case isFalse => omega
  rename_i h1
  split at h
  case isFalse => omega
  rename_i h2
  obtain ⟨T,hT⟩ := formedB_iff.1 h2
  obtain ⟨e1,e2⟩ := xVg hT
  refine ⟨T,e1,e2,(xCf T 0).1 fun e he => (xYD h0).1 (labOk_iff.1 h1 e (e1 ▸ he))⟩
 ·rintro ⟨T,rfl,h2,h3⟩
  rw [if_neg (by rw [xAS]; omega),if_pos (labOk_iff.2 fun e he => (xYD h0).2 ((xCf T 0).2 h3 e he)),if_pos (formedB_iff.2 ⟨T,xVh h2⟩)]
theorem yGA {D : Da} (hV : Va D) (z : Bool) {T : BT} (ht : T.size ≤ 31) (hx : T.labs (· < two D.vars)) : xAL L 54 [D.av,tw z (xBj 0 T)] =
  some (.own false 2 0 (T.size + 1) 1,[.cells false false D.cells,.cells false false [.int .i64 (T.size : Nat)],.cells false false (ints (stL D T ++ [D.empty])),.cells false false [.own false 2 0 (T.size + 1) 1]]) := by
 obtain ⟨h,hl,hfl⟩ := xQf hV z ht hx
 refine xA1 ?_ rfl
 generalize stL D T ++ [D.empty] = S at *
 unfold tw at h ⊢
 simp only [hl] at h ⊢
 generalize lfs (xBj 0 T) = tl at *
 generalize T.size = n at *
 unfold Da.av
 unfold Da.cells at h ⊢
 rw [yJt,a54]
 simp (maxSteps := 30000000) (disch := first | assumption | omega | (simp only [WL,AV.isCell,xAa,xAe] <;> omega) | rfl | decide) only [WB,Nat.reduceAdd,Nat.reduceSub,AV.cells,AV.isCell,↓reduceIte,xBp,W2,xRY,h,Int.reduceNeg]
theorem yGB {D : Da} (hV : Va D) (z : Bool) {T : BT} (ht : T.size ≤ 31) (hx : T.labs (· < two D.vars)) : ∃ B : xAc,xAL L 16 [D.av,tw z (xBj 0 T)] =
  some (.tup [.own false 3 0 T.size 1,.int .i64 0],B) ∧ B[3]? = some (.cells false false (ints (stL D T ++ [D.empty]))) := by
 have hl := xAS T 0
 have h1 := xD3 hV z (xBj 0 T) (by omega) (fun e he => by have := (xCf T 0).2 hx e he; have := (xAV hV.v3).1; omega)
 rw [(xFi hV.v0).2 ⟨T,rfl,ht,hx⟩] at h1
 have h2 := yGA hV z ht hx
 have hsl := xCH D T
 refine ⟨[.cells false false D.cells,xAP 1 (.cells false false D.cells),xAP 1 (.cells false false [.int .i64 (T.size : Nat)]),xAP 1 (.cells false false (ints (stL D T ++ [D.empty]))),xAP 1 (.cells false false [.own false 2 0 (T.size + 1) 1])],xA1 ?_ rfl,?_⟩
 ·unfold tw at h1 h2 ⊢
  simp only [hl] at h1 h2 ⊢
  unfold Da.av at h1 h2 ⊢
  unfold Da.cells at h1 h2 ⊢
  rw [yHH,a16]
  simp (maxSteps := 30000000) (disch := first | assumption | omega | (simp only [WL,AV.isCell,xAa,xAe] <;> omega) | rfl | decide) only [WB,Nat.reduceAdd,Nat.reduceSub,AV.cells,AV.isCell,↓reduceIte,h1,xA0,xAx,xDs,xBZ,h2,xDt,xB4,xDc,xAK,W2]
 ·show some (xAP 1 (.cells false false (ints (stL D T ++ [D.empty])))) = _
  simp only [xAP,xFm,xD4,if_true]
theorem xVj {D : Da} (hV : Va D) (z : Bool) (t : List Lf) (hl : t.length < 1099511627776) (hx : ∀ e ∈ t,e.x < 256) (he : xCJ t D.vars.toNat ≠ 0) : ∃ B,xAL L 16 [D.av,tw z t] = some (.tup [.sl true 0 [],.int .i64 (xCJ t D.vars.toNat)],B) := by
 have h1 := xD3 hV z t hl hx
 refine ⟨[.cells false false D.cells],xA1 ?_ rfl⟩
 generalize xCJ t D.vars.toNat = e at *
 unfold Da.av at h1 ⊢
 unfold Da.cells at h1 ⊢
 rw [yHH,a16]
 simp (maxSteps := 30000000) (disch := first | assumption | omega | (simp only [WL,AV.isCell,xAa,xAe] <;> omega) | rfl | decide) only [WB,Nat.reduceAdd,Nat.reduceSub,AV.cells,AV.isCell,↓reduceIte,h1,xA0,xAx,he]
theorem xEn {l : List Int} {z z' : Bool} {s4 : AV} {H : xAc} (hl : l.length < 1099511627776) : ∀ d i,i + d = l.length →
  L.loop xJJ xVG ⟨xG0 (iw z l) (iw z' l) s4 (.int .i64 (i : Nat)),H⟩ = some (.exit 0,⟨xG0 (iw z l) (iw z' l) s4 (.int .i64 (l.length : Nat)),H⟩)
 | 0,i,h => by
  obtain rfl : i = l.length := by omega
  rw [xMT]
  simp (maxSteps := 30000000) (disch := first | assumption | omega | (simp only [WL,AV.isCell,xAa,xAe] <;> omega) | rfl | decide) only [xGZ,WB,↓reduceIte,xF3]
 | d + 1,i,h => by
  have hlt : (i : Int) < (l.length : Nat) := by omega
  have ih := xEn (z := z) (z' := z') (s4 := s4) (H := H) hl d (i + 1) (by omega)
  rw [xMT]
  simp (maxSteps := 30000000) (disch := first | assumption | omega | (simp only [WL,AV.isCell,xAa,xAe] <;> omega) | rfl | decide) only [xGZ,WB,hlt,↓reduceIte,W2,xAj,xF3,ih]
theorem xCY (z z' : Bool) (l : List Int) (hl : l.length < 1099511627776) : L.pcall 20 [iw z l,iw z' l] = some (.bool true) := by
 have ih := fun s4 => xEn (z := z) (z' := z') (s4 := s4) (H := []) hl l.length 0 (by omega)
 simp only [Int.natCast_zero] at ih
 rw [yHc,a20,xAf]
 simp (maxSteps := 30000000) (disch := first | assumption | omega | (simp only [WL,AV.isCell,xAa,xAe] <;> omega) | rfl | decide) only [WB,Nat.reduceAdd,Nat.reduceSub,↓reduceIte,xF3,ih]
abbrev sw (z : Bool) (l : List Nat) : AV := .sl z l.length (w64 l)
def W (l : List Nat) : Prop := ∀ x ∈ l,x < 18446744073709551616
theorem W.get {l : List Nat} (h : W l) (i : Nat) : l.getD i 0 < 18446744073709551616 := by
 rw [List.getD_eq_getElem?_getD]
 cases e : l[i]? with
 | none => simp
 | some x => exact h x (List.mem_of_getElem? e)
def mem (l : List Nat) (j : Nat) : Bool := decide (j < 4096) && (l.getD (j / 64) 0).testBit (j % 64)
def HasSet (v : AV) (S : Nat → Bool) : Prop := ∃ z l,v = sw z l ∧ W l ∧ l.length < 1099511627776 ∧ ∀ j,mem l j = S j
theorem HasSet.out {v : AV} {S : Nat → Bool} (h : HasSet v S) {j : Nat} (hj : 4096 ≤ j) : S j = false := by
 obtain ⟨z,l,rfl,_,_,h⟩ := h
 rw [← h j]
 simp [mem,show ¬ j < 4096 by omega]
theorem HasSet.congr {v : AV} {S T : Nat → Bool} (h : HasSet v S) (e : ∀ j,S j = T j) : HasSet v T := by
 obtain ⟨z,l,rfl,w,hl,h⟩ := h
 exact ⟨z,l,rfl,w,hl,fun j => (h j).trans (e j)⟩
def yJS (p n x : Nat) : Bool := decide (x &&& p = p) && decide (x &&& n = 0)
def yEJ (v p n : Nat) : Int := if 2 ^ v ≤ p ||| n then 7 else if p &&& n = 0 then 0 else 2
structure Rl where
 l : Int
 r : Int
 t : Int
 p : Nat
 n : Nat
def rl0 : Rl := ⟨0,0,0,0,0⟩
def xLq (e : Rl) : List AV := [.int .i64 e.l,.int .i64 e.r,.int .i64 e.t,.int .u8 (e.p : Nat),.int .u8 (e.n : Nat)]
def rls (l : List Rl) : List AV := rows xLq l
theorem xAn (l : List Rl) : (rls l).length = l.length * 5 := xI2 (enc := xLq) (k := 5) (fun _ => rfl) l
theorem yGC {l : List Rl} {i : Nat} (h : i < l.length) : List.take 5 (List.drop (i * 5) (rls l)) = [.int .i64 (l.getD i rl0).l,.int .i64 (l.getD i rl0).r,.int .i64 (l.getD i rl0).t,.int .u8 ((l.getD i rl0).p : Nat),.int .u8 ((l.getD i rl0).n : Nat)] := by
 unfold rls
 rw [xFk (enc := xLq) (k := 5) (fun _ => rfl),List.drop_eq_getElem_cons h]
 have : l.getD i rl0 = l[i] := by simp [List.getD,List.getElem?_eq_getElem h]
 rw [this]
 rfl
structure Aut where
 vars : Int
 states : Int
 z1 : Bool
 st : List Int
 z2 : Bool
 fi : List Int
 z3 : Bool
 rl : List Rl
abbrev Aut.cells (n : Aut) : List AV := [.int .i64 n.vars,.int .i64 n.states,iw n.z1 n.st,iw n.z2 n.fi,.sl n.z3 n.rl.length (rls n.rl)]
abbrev Aut.av (n : Aut) : AV := .agg n.cells
def yIl (s : Int) : Int → List Int → Bool
 | _,[] => true
 | last,q :: t => if q ≤ last ∨ s ≤ q then false else yIl s q t
def yBp (s : Int) (v : Nat) (e : Rl) : Int := if min (min e.l e.r) e.t < 0 ∨ s ≤ max (max e.l e.r) e.t then 8 else yEJ v e.p e.n
def xT1 (s : Int) (v : Nat) : List Rl → Int
 | [] => 0
 | e :: t => if yBp s v e = 0 then xT1 s v t else yBp s v e
def hit (l r x : Nat) (u : Rl) : Bool := l.testBit u.l.toNat && r.testBit u.r.toNat && yJS u.p u.n x
def yJT (l : List Rl) : Prop := ∀ e ∈ l,(0 ≤ e.l ∧ e.l < 64) ∧ (0 ≤ e.r ∧ e.r < 64) ∧ (0 ≤ e.t ∧ e.t < 64) ∧ e.p < 256 ∧ e.n < 256
section
variable {s1 s2 s5 s6 s7 s8 : AV}
end
def OwnG (G : xAc) (v : AV) (l : List Nat) : Prop := (v = .sl true 0 [] ∧ l = []) ∨ ∃ k r,2 < k ∧ v = .own false k 0 l.length 1 ∧ G[k]? = some (.cells false false (w64 (l ++ r)))
theorem OwnG.app {G : xAc} {v : AV} {l : List Nat} (h : OwnG G v l) (X : xAc) : OwnG (G ++ X) v l := by
 rcases h with h | ⟨k,r,e0,e1,e2⟩
 ·exact .inl h
 ·exact .inr ⟨k,r,e0,e1,xAw e2⟩
def Pop (E : Nat) (c : Int) (st : List Nat) (v : Nat) (st' : List Nat) : Prop := c < 0 ∧ v = E ∧ st = st' ∨ ¬ c < 0 ∧ st = st' ++ [v]
structure InvA (n : Aut) (E : Nat) (G : xAc) (st : List Nat) : Prop where
 g0 : G[0]? = some (.cells false false n.cells)
 g1 : G[1]? = some (.cells false false [.int .u64 (E : Nat)])
 own : ∃ v,G[2]? = some (.cells false false [v]) ∧ OwnG G v st
theorem InvA.app {n : Aut} {E : Nat} {G : xAc} {st : List Nat} (h : InvA n E G st) (X : xAc) : InvA n E (G ++ X) st := by
 obtain ⟨v,h2,h3⟩ := h.own
 exact ⟨xAw h.g0,xAw h.g1,v,xAw h2,h3.app X⟩
theorem Pop.len {E : Nat} {c : Int} {st st' : List Nat} {v : Nat} (h : Pop E c st v st') : st'.length ≤ st.length := by
 rcases h with ⟨_,_,h⟩ | ⟨_,h⟩
 ·rw [h]; omega
 ·rw [h]; simp
structure TyA (n : Aut) : Prop where
 st : n.st.length < 1099511627776
 fi : n.fi.length < 1099511627776
 rl : n.rl.length < 1099511627776
 u8 : ∀ e ∈ n.rl,e.p < 256 ∧ e.n < 256
structure Valid (n : Aut) : Prop where
 v0 : 0 ≤ n.vars
 v3 : n.vars ≤ 3
 s0 : 0 ≤ n.states
 s64 : n.states ≤ 64
 rl : n.rl.length ≤ 512
 st : yIl n.states (-1) n.st = true
 fi : yIl n.states (-1) n.fi = true
 ru : xT1 n.states n.vars.toNat n.rl = 0
theorem xLr {s : Int} {v : Nat} : ∀ {l : List Rl},xT1 s v l = 0 → ∀ e ∈ l,yBp s v e = 0
 | [],_,e,h => by simp at h
 | a :: t,h,e,he => by
  unfold xT1 at h
  split at h
  ·rcases List.mem_cons.1 he with rfl | he
   ·assumption
   ·exact xLr h e he
  ·contradiction
theorem Valid.rule {n : Aut} (h : Valid n) : ∀ e ∈ n.rl,(0 ≤ e.l ∧ e.l < n.states) ∧ (0 ≤ e.r ∧ e.r < n.states) ∧ (0 ≤ e.t ∧ e.t < n.states) := fun e he => by
 have h1 := xLr h.ru e he
 unfold yBp at h1
 split at h1
 ·omega
 ·omega
theorem Valid.ok {n : Aut} (h : Valid n) (hT : TyA n) : yJT n.rl := fun e he => by
 have h1 := h.rule e he
 have h2 := h.s64
 have h3 := hT.u8 e he
 omega
theorem xYE (l : List Rl) : (rls l).all xAX = true := by
 induction l with
 | nil => rfl
 | cons e l ih =>
  have : rls (e :: l) = xLq e ++ rls l := rfl
  rw [this,List.all_append,ih]; rfl
theorem yGD (z : Bool) (l : List Int) (hl : l.length < 1099511627776) : L.pcall 47 [iw z l] = some (iw (l.length == 0) l) := by
 rw [yJp,a47,xAf]
 simp (maxSteps := 30000000) (disch := first | assumption | omega | (simp only [WL,AV.isCell,xAe,xAn] <;> omega) | rfl | decide) only [WB,Nat.reduceSub,xAY,W2]
def NF (D : Da) (F : List Int) (R : List Rl) (G : xAc) : Prop := ∃ vF vR,G[0]? = some (.cells false false D.cells) ∧ G[1]? = some (.cells false false [.int .i64 0,.int .i64 0,.sl true 0 [],.sl true 0 [],.sl true 0 []]) ∧
 G[2]? = some (.cells false false [.int .i64 D.vars,.int .i64 (D.next.length : Nat),.sl false 1 [.int .i64 D.empty],vF,vR]) ∧ LstE 1 3 G vF F.length (ints F) ∧ LstE 5 3 G vR R.length (rls R) ∧ ∀ b,At vF b → ¬ At vR b
theorem NF.rule {D : Da} {F : List Int} {R : List Rl} {G : xAc} (h : NF D F R G) (u : Rl) (hR : R.length ≤ 5000) : ∃ vF vR vR' G1,
  G[0]? = some (.cells false false D.cells) ∧ G[2]? = some (.cells false false [.int .i64 D.vars,.int .i64 (D.next.length : Nat),.sl false 1 [.int .i64 D.empty],vF,vR]) ∧ xQQ false 5 32 G vR (some (1,xLq u)) = some (vR',G1) ∧
  G1[2]? = some (.cells false false [.int .i64 D.vars,.int .i64 (D.next.length : Nat),.sl false 1 [.int .i64 D.empty],vF,vR]) ∧
  NF D F (R ++ [u]) (G1.set 2 (.cells false false [.int .i64 D.vars,.int .i64 (D.next.length : Nat),.sl false 1 [.int .i64 D.empty],vF,vR'])) ∧ ∃ id m,vR' = .own false id 0 m 5 := by
 obtain ⟨vF,vR,h0,h1,h2,hF,hV,hd⟩ := h
 have l2 := (List.getElem?_eq_some_iff.1 h2).1
 obtain ⟨vR',G1,p1,p2,p3,p4,p5,id,m,rfl⟩ := hV.push (xLq u) rfl (bytes := 32) (by omega) (by omega) (by omega)
 have hl := p3.1
 have e2 : rls R ++ xLq u = rls (R ++ [u]) := by simp [rls,rows]
 rw [e2,show R.length + 1 = (R ++ [u]).length by simp] at p2
 have hF1 : LstE 1 3 G1 vF F.length (ints F) := hF.other fun b hb => p4 b (hF.inb hb).1 (hd b hb)
 have ne : ∀ (X : Blk) b,b ≠ 2 → (G1.set 2 X)[b]? = G1[b]? := fun X b hb => List.getElem?_set_ne (Ne.symm hb)
 refine ⟨vF,vR,_,G1,h0,h2,p1,(p3.2 2 (by omega)).trans h2,⟨vF,_,?_,?_,List.getElem?_set_self (by omega),hF1.other fun b hb => ne _ b (by have := (hF1.inb hb).2; omega),p2.other fun b hb => ne _ b (by have := (p2.inb hb).2; omega),fun b hb q => ?_⟩,id,m,rfl⟩
 ·rw [ne _ 0 (by omega)]; exact (p3.2 0 (by omega)).trans h0
 ·rw [ne _ 1 (by omega)]; exact (p3.2 1 (by omega)).trans h1
 ·have := p5 b q
  have := (hF.inb hb).1
  omega
theorem NF.final {D : Da} {F : List Int} {R : List Rl} {G : xAc} (h : NF D F R G) (u : Int) (hR : F.length ≤ 5000) : ∃ vF vR vF' G1,
  G[2]? = some (.cells false false [.int .i64 D.vars,.int .i64 (D.next.length : Nat),.sl false 1 [.int .i64 D.empty],vF,vR]) ∧ xQQ false 1 8 G vF (some (1,[.int .i64 u])) = some (vF',G1) ∧
  G1[2]? = some (.cells false false [.int .i64 D.vars,.int .i64 (D.next.length : Nat),.sl false 1 [.int .i64 D.empty],vF,vR]) ∧
  NF D (F ++ [u]) R (G1.set 2 (.cells false false [.int .i64 D.vars,.int .i64 (D.next.length : Nat),.sl false 1 [.int .i64 D.empty],vF',vR])) ∧ ∃ id m,vF' = .own false id 0 m 1 := by
 obtain ⟨vF,vR,h0,h1,h2,hF,hV,hd⟩ := h
 have l2 := (List.getElem?_eq_some_iff.1 h2).1
 obtain ⟨vF',G1,p1,p2,p3,p4,p5,id,m,rfl⟩ := hF.push [.int .i64 u] rfl (bytes := 8) (by omega) (by omega) (by omega)
 have hl := p3.1
 have e2 : ints F ++ [.int .i64 u] = ints (F ++ [u]) := by simp [ints]
 rw [e2,show F.length + 1 = (F ++ [u]).length by simp] at p2
 have hV1 : LstE 5 3 G1 vR R.length (rls R) := hV.other fun b hb => p4 b (hV.inb hb).1 (fun q => hd b q hb)
 have ne : ∀ (X : Blk) b,b ≠ 2 → (G1.set 2 X)[b]? = G1[b]? := fun X b hb => List.getElem?_set_ne (Ne.symm hb)
 refine ⟨vF,vR,_,G1,h2,p1,(p3.2 2 (by omega)).trans h2,⟨_,vR,?_,?_,List.getElem?_set_self (by omega),p2.other fun b hb => ne _ b (by have := (p2.inb hb).2; omega),hV1.other fun b hb => ne _ b (by have := (hV1.inb hb).2; omega),fun b hb q => ?_⟩,id,m,rfl⟩
 ·rw [ne _ 0 (by omega)]; exact (p3.2 0 (by omega)).trans h0
 ·rw [ne _ 1 (by omega)]; exact (p3.2 1 (by omega)).trans h1
 ·have := p5 b hb
  have := (hV.inb q).1
  omega
def rlX (D : Da) (l r x : Nat) : List Rl := (List.range x).map fun x => ⟨(l : Nat),(r : Nat),nx D (l : Nat) (r : Nat) x,x,two D.vars - 1 - x⟩
def rlR (D : Da) (l r : Nat) : List Rl := (List.range r).flatMap fun r => rlX D l r (two D.vars)
def rlL (D : Da) (l : Nat) : List Rl := (List.range l).flatMap fun l => rlR D l D.next.length
def fiL (D : Da) (l : Nat) : List Int := ((List.range l).filter fun s => D.fin.getD s false).map fun (s : Nat) => (s : Int)
theorem xMr (D : Da) (l r : Nat) : rlR D l (r + 1) = rlR D l r ++ rlX D l r (two D.vars) := by
 unfold rlR; rw [List.range_succ,List.flatMap_append]; simp
theorem xGJ (D : Da) (l : Nat) : rlL D (l + 1) = rlL D l ++ rlR D l D.next.length := by
 unfold rlL; rw [List.range_succ,List.flatMap_append]; simp
theorem xT2 (D : Da) (l : Nat) : fiL D (l + 1) = if D.fin.getD l false = true then fiL D l ++ [(l : Int)] else fiL D l := by
 unfold fiL
 rw [List.range_succ,List.filter_append,List.map_append]
 by_cases c : D.fin.getD l false = true
 ·rw [if_pos c]; simp at c; simp [c]
 ·rw [if_neg c]; simp at c; simp [c]
theorem xEz (D : Da) (l r x : Nat) : (rlX D l r x).length = x := by simp [rlX]
theorem yEK (D : Da) (l r : Nat) : (rlR D l r).length = r * two D.vars := by
 induction r with
 | zero => simp [rlR]
 | succ r ih => rw [xMr,List.length_append,ih,xEz,Nat.add_mul,Nat.one_mul]
theorem xMs (D : Da) (l : Nat) : (rlL D l).length = l * (D.next.length * two D.vars) := by
 induction l with
 | zero => simp [rlL]
 | succ l ih => rw [xGJ,List.length_append,ih,yEK,Nat.add_mul,Nat.one_mul]
theorem xMt (D : Da) (l : Nat) : (fiL D l).length ≤ l := by
 unfold fiL
 rw [List.length_map]
 have := List.length_filter_le (fun s => D.fin.getD s false) (List.range l)
 rwa [List.length_range] at this
theorem xQg (l : List Int) : (ints l).all xAX = true := by
 induction l with
 | nil => rfl
 | cons a l ih => simp [ints,xAX]
def toN (D : Da) : Aut := ⟨D.vars,(D.next.length : Nat),false,[D.empty],(fiL D D.next.length).length == 0,fiL D D.next.length,(rlL D D.next.length).length == 0,rlL D D.next.length⟩
theorem yEL {l : List Rl} {i : Nat} {e : Rl} (h : i < l.length) : List.take (i * 5) (rls l) ++ (.int .i64 e.l :: .int .i64 e.r :: .int .i64 e.t :: .int .u8 (e.p : Nat) :: .int .u8 (e.n : Nat) :: List.drop (i * 5 + 5) (rls l)) = rls (l.set i e) := by
 have hd : List.drop (i * 5 + 5) (rls l) = rls (l.drop (i + 1)) := by
  unfold rls
  rw [show i * 5 + 5 = (i + 1) * 5 by omega,xFk (enc := xLq) (k := 5) (fun _ => rfl)]
 have ht : List.take (i * 5) (rls l) = rls (l.take i) := by
  unfold rls
  rw [xI3 (enc := xLq) (k := 5) (fun _ => rfl)]
 rw [hd,ht,List.set_eq_take_append_cons_drop,if_pos h]
 exact yBu xLq (l.take i) (e :: l.drop (i + 1))
theorem xRi {z : Bool} {k : Nat} : ∀ d i G l,i + d = l.length → l.length < 1099511627776 → G[k]? = some (.cells false z (rls l)) →
  ∃ l',L.loop xJ1 xWk ⟨xHf (.own z k 0 l.length 5) (.int .i64 (i : Nat)),G⟩ = some (.exit 0,⟨xHf (.own z k 0 l.length 5) (.int .i64 (l.length : Nat)),G.set k (.cells false z (rls l'))⟩) ∧ l'.length = l.length := by
 intro d
 induction d with
 | zero =>
  intro i G l h hl hk
  obtain rfl : i = l.length := by omega
  refine ⟨l,?_,rfl⟩
  have e : G.set k (.cells false z (rls l)) = G := by
   obtain ⟨h1,h2⟩ := List.getElem?_eq_some_iff.1 hk
   rw [← h2,List.set_getElem_self]
  rw [e,xWl]
  simp (maxSteps := 30000000) (disch := first | assumption | omega | (simp only [WL,AV.isCell,xAn] <;> omega) | rfl | decide) only [xOa,Int.reduceNeg,WB,↓reduceIte,xOb]
 | succ d IH =>
  intro i G l h hl hk
  have hlt : (i : Int) < (l.length : Nat) := by omega
  have hi : i < l.length := by omega
  have hk1 := (List.getElem?_eq_some_iff.1 hk).1
  have hput := yEL (e := ⟨0,0,-7,0,0⟩) hi
  obtain ⟨l',e1,e2⟩ := IH (i + 1) (G.set k (.cells false z (rls (l.set i ⟨0,0,-7,0,0⟩)))) (l.set i ⟨0,0,-7,0,0⟩) (by simp; omega) (by simpa using hl) (by rw [List.getElem?_set_self hk1])
  rw [List.length_set] at e1 e2
  rw [List.set_set] at e1
  refine ⟨l',?_,e2⟩
  simp only [Int.natCast_zero] at hput
  rw [xWl]
  simp (maxSteps := 30000000) (disch := first | assumption | omega | (simp only [WL,AV.isCell,xAn] <;> omega) | rfl | decide) only [xOa,Int.reduceNeg,WB,hlt,↓reduceIte,AV.cells,Nat.reduceAdd,Nat.reduceLeDiff,AV.isCell,hk,hput,xOb,e1]
theorem yGE {z : Bool} {k : Nat} {G : xAc} {l : List Rl} (hl : l.length < 1099511627776) (hk : G[k]? = some (.cells false z (rls l))) :
  ∃ l' : List Rl,L.icall (.func 71 []) [.own z k 0 l.length 5] G = some (.tup [],G.set k (.cells false z (rls l'))) ∧ l'.length = l.length := by
 obtain ⟨l',e1,e2⟩ := xRi l.length 0 G l (by omega) hl hk
 refine ⟨l',?_,e2⟩
 simp only [Int.natCast_zero] at e1
 rw [yIS,a71]
 simp (maxSteps := 30000000) (disch := first | assumption | omega | (simp only [WL,AV.isCell,xAn] <;> omega) | rfl | decide) only [WB,Nat.reduceSub,xOb,e1,↓reduceIte]
theorem xMu : ∀ l : List Nat,xJs (bs l) = some (l.map UInt8.ofNat)
 | [] => rfl
 | n :: l => by
  show (xJs (bs l)).map (UInt8.ofNat ((n : Nat) : Int).toNat :: ·) = _
  rw [xMu l]; rfl
def yBq (l : List Nat) : AV := .str ⟨⟨l.map UInt8.ofNat⟩⟩
theorem xYF {a b : List Nat} (ha : ∀ x ∈ a,x < 256) (hb : ∀ x ∈ b,x < 256) : xDJ (yBq a) (yBq b) = some (decide (a = b)) := by
 have inj : ∀ {a b : List Nat},(∀ x ∈ a,x < 256) → (∀ x ∈ b,x < 256) → a.map UInt8.ofNat = b.map UInt8.ofNat → a = b := by
  intro a
  induction a with
  | nil => intro b _ _ h; cases b with | nil => rfl | cons => simp at h
  | cons x a ih =>
   intro b ha hb h
   cases b with
   | nil => simp at h
   | cons y b =>
    simp only [List.map_cons,List.cons.injEq] at h
    have h1 : x = y := by
     have := congrArg UInt8.toNat h.1
     have hx := ha x (by simp)
     have hy := hb y (by simp)
     simp only [UInt8.toNat_ofNat'] at this
     omega
    rw [h1,ih (fun z hz => ha z (by simp [hz])) (fun z hz => hb z (by simp [hz])) h.2]
 show some ((a.map UInt8.ofNat) == (b.map UInt8.ofNat)) = _
 congr 1
 rw [Bool.eq_iff_iff,beq_iff_eq,decide_eq_true_eq]
 exact ⟨inj ha hb,fun e => by rw [e]⟩
def xCI (cls : List Int) (t : Int) : List Nat := [32,(cls.getD t.toNat 0).toNat]
theorem yEM {G : xAc} {p q rb cb : Nat} {row : List Nat} {cls : List Int} {t : Int} (hp : G[p]? = some (.cells false false [.own false rb 0 row.length 1])) (hr : G[rb]? = some (.cells false false (bs row)))
  (hq : G[q]? = some (.cells false false [.own false cb 0 cls.length 1])) (hc : G[cb]? = some (.cells false false (ints cls))) (ht : 0 ≤ t ∧ t < cls.length) (hcl : cls.length ≤ 64) (hb : ∀ c ∈ cls,0 ≤ c ∧ c < 64) (hl : row.length < 1073741824) (hpr : p ≠ rb) (hpl : p < G.length) :
  ∃ G',L.icall (.func 106 [.ptr p 0,.ptr q 0]) [.int .i64 t] G = some (.tup [],G') ∧ G' = (G.set rb .dead ++ [Blk.cells false false (bs (row ++ xCI cls t))]).set p (.cells false false [.own false G.length 0 (row ++ xCI cls t).length 1]) := by
 refine ⟨_,?_,rfl⟩
 have hm := hb _ (xAl (a := (0 : Int)) (show t.toNat < cls.length by omega))
 have hw : IntKind.u8.wrap (cls.getD t.toNat 0) = ((cls.getD t.toNat 0).toNat : Nat) := by
  have e : IntKind.u8.wrap (cls.getD t.toNat 0) = cls.getD t.toNat 0 := by
   unfold IntKind.wrap
   show (if _ then _ else _) = _
   have h1 : (cls.getD t.toNat 0) % (2 ^ IntKind.u8.bits : Int) = cls.getD t.toNat 0 := Int.emod_eq_of_lt hm.1 (by show _ < (2 : Int) ^ 8; omega)
   rw [h1]; rfl
  rw [e,Int.toNat_of_nonneg hm.1]
 have hg : List.take 1 (List.drop t.toNat (ints cls)) = [.int .i64 (cls.getD t.toNat 0)] := xAr _ _ (by omega)
 have htk : List.take row.length (bs row) = bs row := List.take_of_length_le (by rw [xCk]; exact Nat.le_refl _)
 have hn : bs row ++ [AV.int .u8 32,AV.int .u8 ((cls.getD t.toNat 0).toNat : Nat)] = bs (row ++ xCI cls t) := by
  unfold xCI; simp [bs]
 have hln : (row ++ xCI cls t).length = row.length + 2 := by simp [xCI]
 have hp2 : ∀ T : xAc,(G.set rb .dead ++ T)[p]? = some (.cells false false [.own false rb 0 row.length 1]) := fun T => xAw (by rw [List.getElem?_set_ne (Ne.symm hpr)]; exact hp)
 rw [hln,yHR,yHE]
 simp (maxSteps := 30000000) (disch := first | assumption | omega | (simp only [WL,AV.isCell,xAa] <;> omega) | rfl | decide) only [WB,Nat.reduceAdd,Nat.reduceSub,hp,hq,xAj,hc,W2,hw,AV.cells,↓reduceIte,Nat.reduceLeDiff,AV.isCell,hr,Nat.reduceBEq,htk,hn,hp2]
def yEN (G : xAc) (B p : Nat) (row : List Nat) : Prop := ∃ rb,G[p]? = some (.cells false false [.own false rb 0 row.length 1]) ∧ G[rb]? = some (.cells false false (bs row)) ∧ B ≤ rb ∧ p ≠ rb
structure Base (D : Da) (cls : List Int) (G : xAc) (B : Nat) : Prop where
 b0 : G[0]? = some (.cells false false D.cells)
 b1 : ∃ cb,G[1]? = some (.cells false false [.own false cb 0 cls.length 1]) ∧ G[cb]? = some (.cells false false (ints cls)) ∧ cb < B
 two : 1 < B
 le : B ≤ G.length
structure ClsOk (D : Da) (cls : List Int) : Prop where
 len : cls.length = D.next.length
 bd : ∀ c ∈ cls,0 ≤ c ∧ c < 64
theorem Base.step {D : Da} {cls : List Int} {G G' : xAc} {B : Nat} (h : Base D cls G B) (he : ∀ b,b < B → G'[b]? = G[b]?) (hl : G.length ≤ G'.length) : Base D cls G' B := by
 have := h.two
 obtain ⟨cb,c1,c2,c3⟩ := h.b1
 exact ⟨by rw [he 0 (by omega)]; exact h.b0,⟨cb,by rw [he 1 (by omega)]; exact c1,by rw [he cb c3]; exact c2,c3⟩,h.two,by have := h.le; omega⟩
theorem yEO {D : Da} {cls : List Int} {G : xAc} {B p : Nat} {row : List Nat} {t : Int} (hC : ClsOk D cls) (h64 : D.next.length ≤ 64) (hB : Base D cls G B) (hR : yEN G B p row) (hp : B ≤ p) (ht : 0 ≤ t ∧ t < D.next.length) (hl : row.length < 1073741824) :
  ∃ G',L.icall (.func 106 [.ptr p 0,.ptr 1 0]) [.int .i64 t] G = some (.tup [],G') ∧ yEN G' B p (row ++ xCI cls t) ∧ (∀ b,b < B → G'[b]? = G[b]?) ∧ G.length ≤ G'.length := by
 obtain ⟨rb,r1,r2,r3,r4⟩ := hR
 obtain ⟨cb,c1,c2,c3⟩ := hB.b1
 have hpl := (List.getElem?_eq_some_iff.1 r1).1
 have hrl := (List.getElem?_eq_some_iff.1 r2).1
 have hlen := hC.len
 obtain ⟨G',e1,e2⟩ := yEM (t := t) r1 r2 c1 c2 (by omega) (by omega) hC.bd hl r4 hpl
 have hle := hB.le
 refine ⟨G',e1,⟨G.length,?_,?_,by omega,by omega⟩,fun b hb => ?_,by rw [e2]; simp⟩
 ·rw [e2]; exact List.getElem?_set_self (by rw [List.length_append,List.length_set]; omega)
 ·rw [e2,List.getElem?_set_ne (by omega),List.getElem?_append_right (by simp)]; simp
 ·rw [e2,List.getElem?_set_ne (by omega),List.getElem?_append_left (by simp; omega),List.getElem?_set_ne (by omega)]
def ntX (D : Da) (cls : List Int) (s q x : Nat) : List Nat := xCI cls (nx D s q x) ++ xCI cls (nx D q s x)
def ntQ (D : Da) (cls : List Int) (s q i e : Nat) : List Nat := (List.range' i e).flatMap (ntX D cls s q)
theorem xMv (D : Da) (cls : List Int) (s q x : Nat) : (ntX D cls s q x).length = 4 := rfl
theorem xIY (D : Da) (cls : List Int) (s q : Nat) : ∀ e i,(ntQ D cls s q i e).length = 4 * e
 | 0,_ => rfl
 | e + 1,i => by
  unfold ntQ
  rw [List.range'_succ,List.flatMap_cons,List.length_append,xMv]
  have := xIY D cls s q e (i + 1)
  unfold ntQ at this
  omega
section
variable {D : Da} {cls : List Int} {p B s q : Nat} {s3 s4 s5 s22 s23 s38 s39 : AV}
theorem yEP (hV : Va D) (hC : ClsOk D cls) (hs : s < D.next.length) (hq : q < D.next.length) (hp : B ≤ p) : ∀ e i G row,i + e = two D.vars → Base D cls G B → yEN G B p row → row.length + 4 * e < 1073741824 →
  ∃ G',L.loop xNB yAh ⟨xNC (.ptr 0 0) (.ptr 1 0) s3 s4 s5 (.int .i64 (s : Nat)) (.ptr p 0) (.func 106 [.ptr p 0,.ptr 1 0]) (.int .i64 (q : Nat)) s22 s23 s38 s39 (.int .i64 (two D.vars : Nat)) (.int .i64 (i : Nat)),G⟩ =
   some (.exit 6,⟨xNC (.ptr 0 0) (.ptr 1 0) s3 s4 s5 (.int .i64 (s : Nat)) (.ptr p 0) (.func 106 [.ptr p 0,.ptr 1 0]) (.int .i64 (q : Nat)) s22 s23 s38 s39 (.int .i64 (two D.vars : Nat)) (.int .i64 (two D.vars : Nat)),G'⟩) ∧
   yEN G' B p (row ++ ntQ D cls s q i e) ∧ (∀ b,b < B → G'[b]? = G[b]?) ∧ G.length ≤ G'.length := by
 intro e
 induction e with
 | zero =>
  intro i G row h hB hR _
  obtain rfl : i = two D.vars := by omega
  refine ⟨G,?_,by simpa [ntQ] using hR,fun _ _ => rfl,Nat.le_refl _⟩
  rw [yCk]
  simp (maxSteps := 30000000) (disch := first | assumption | omega | (simp only [WL,AV.isCell,xAa] <;> omega) | rfl | decide) only [xR6,WB,↓reduceIte,xV5]
 | succ e ih =>
  intro i G row h hB hR hl
  have h8 := (xAV hV.v3).1
  have hlt : (i : Int) < (two D.vars : Nat) := by omega
  have n64 := hV.n64
  have g1 := xAl (a := ([] : List (List Int))) hs
  have g2 := hV.rl _ g1
  have g3 := xAl (a := ([] : List Int)) (show q < (D.next.getD s []).length by omega)
  have g4 := hV.cl _ g1 _ g3
  have k1 := xAl (a := ([] : List (List Int))) hq
  have k2 := hV.rl _ k1
  have k3 := xAl (a := ([] : List Int)) (show s < (D.next.getD q []).length by omega)
  have k4 := hV.cl _ k1 _ k3
  have b1 : 0 ≤ nx D s q i ∧ nx D s q i < D.next.length := xFT hV (by omega) (by omega) (by omega)
  have b2 : 0 ≤ nx D q s i ∧ nx D q s i < D.next.length := xFT hV (by omega) (by omega) (by omega)
  have e1 : nx D s q i = ((D.next.getD s []).getD q []).getD i 0 := rfl
  have e2 : nx D q s i = ((D.next.getD q []).getD s []).getD i 0 := rfl
  obtain ⟨G1,n1,n2,n3,n4⟩ := yEO hC n64 hB hR hp b1 (by omega)
  have hB1 := hB.step n3 n4
  obtain ⟨G2,m1,m2,m3,m4⟩ := yEO hC n64 hB1 n2 hp b2 (by simp [xCI]; omega)
  have hB2 := hB1.step m3 m4
  rw [List.append_assoc] at m2
  obtain ⟨G',f1,f2,f3,f4⟩ := ih (i + 1) G2 (row ++ ntX D cls s q i) (by omega) hB2 m2 (by rw [List.length_append,xMv]; omega)
  refine ⟨G',?_,?_,fun b hb => by rw [f3 b hb,m3 b hb,n3 b hb],by omega⟩
  ·have hg1 : List.take 1 (List.drop i (ints ((D.next.getD s []).getD q []))) = [.int .i64 (((D.next.getD s []).getD q []).getD i 0)] := xAr _ _ (by omega)
   have hg2 : List.take 1 (List.drop i (ints ((D.next.getD q []).getD s []))) = [.int .i64 (((D.next.getD q []).getD s []).getD i 0)] := xAr _ _ (by omega)
   rw [e1] at n1
   rw [e2] at m1
   have h0 := hB.b0
   have h01 := hB1.b0
   unfold Da.cells at h0 h01
   rw [yCk]
   simp (maxSteps := 30000000) (disch := first | assumption | omega | (simp only [WL,AV.isCell,xAa] <;> omega) | rfl | decide) only [xR6,WB,hlt,↓reduceIte,h0,xA2,rowsD,g2,xBy,rowT,g4,W2,n1,h01,k2,k4,m1,xV5,f1]
  ·rw [List.append_assoc] at f2
   have : ntQ D cls s q i (e + 1) = ntX D cls s q i ++ ntQ D cls s q (i + 1) e := by
    unfold ntQ; rw [List.range'_succ,List.flatMap_cons]
   rw [this]; exact f2
end
def ntA (D : Da) (cls : List Int) (s i e : Nat) : List Nat := (List.range' i e).flatMap fun q => ntQ D cls s q 0 (two D.vars)
theorem xYG (D : Da) (cls : List Int) (s : Nat) : ∀ e i,(ntA D cls s i e).length = 4 * two D.vars * e
 | 0,_ => rfl
 | e + 1,i => by
  unfold ntA
  rw [List.range'_succ,List.flatMap_cons,List.length_append,xIY]
  have := xYG D cls s e (i + 1)
  unfold ntA at this
  rw [this,Nat.mul_add]; omega
section
variable {D : Da} {cls : List Int} {p B s : Nat} {s3 s4 s5 s22 s23 : AV}
theorem yEQ (hV : Va D) (hC : ClsOk D cls) (hs : s < D.next.length) (hp : B ≤ p) : ∀ e i G row,i + e = D.next.length → Base D cls G B → yEN G B p row → row.length + 4 * two D.vars * e < 1073741824 →
  ∃ G',L.loop xND yAi ⟨xNE (.ptr 0 0) (.ptr 1 0) s3 s4 s5 (.int .i64 (s : Nat)) (.ptr p 0) (.func 106 [.ptr p 0,.ptr 1 0]) s22 s23 (.int .i64 (D.next.length : Nat)) (.int .i64 (i : Nat)),G⟩ =
   some (.exit 4,⟨xNE (.ptr 0 0) (.ptr 1 0) s3 s4 s5 (.int .i64 (s : Nat)) (.ptr p 0) (.func 106 [.ptr p 0,.ptr 1 0]) s22 s23 (.int .i64 (D.next.length : Nat)) (.int .i64 (D.next.length : Nat)),G'⟩) ∧
   yEN G' B p (row ++ ntA D cls s i e) ∧ (∀ b,b < B → G'[b]? = G[b]?) ∧ G.length ≤ G'.length := by
 intro e
 induction e with
 | zero =>
  intro i G row h hB hR _
  obtain rfl : i = D.next.length := by omega
  have n64 := hV.n64
  refine ⟨G,?_,by simpa [ntA] using hR,fun _ _ => rfl,Nat.le_refl _⟩
  rw [yCl]
  simp (maxSteps := 30000000) (disch := first | assumption | omega | (simp only [WL,AV.isCell,xAa] <;> omega) | rfl | decide) only [xR7,WB,↓reduceIte,xR8]
 | succ e ih =>
  intro i G row h hB hR hl
  have n64 := hV.n64
  have h8 := (xAV hV.v3).1
  have hlt : (i : Int) < (D.next.length : Nat) := by omega
  have g1 := xAl (a := ([] : List (List Int))) hs
  have g2 := hV.rl _ g1
  have g3 := xAl (a := ([] : List Int)) (show i < (D.next.getD s []).length by omega)
  have g4 := hV.cl _ g1 _ g3
  have hmul : 4 * two D.vars * (e + 1) = 4 * two D.vars * e + 4 * two D.vars := by rw [Nat.mul_add,Nat.mul_one]
  obtain ⟨G1,n1,n2,n3,n4⟩ := yEP (s3 := s3) (s4 := s4) (s5 := s5) (s22 := s22) (s23 := s23) (s38 := .int .i64 (D.next.length : Nat)) (s39 := .int .i64 (i : Nat)) hV hC hs (q := i) (by omega) hp (two D.vars) 0 G row (by omega) hB hR (by omega)
  have hB1 := hB.step n3 n4
  obtain ⟨G',f1,f2,f3,f4⟩ := ih (i + 1) G1 (row ++ ntQ D cls s i 0 (two D.vars)) (by omega) hB1 n2 (by rw [List.length_append,xIY]; omega)
  refine ⟨G',?_,?_,fun b hb => by rw [f3 b hb,n3 b hb],by omega⟩
  ·have h0 := hB.b0
   unfold Da.cells at h0
   simp only [Int.natCast_zero] at n1
   rw [yCl]
   simp (maxSteps := 30000000) (disch := first | assumption | omega | (simp only [WL,AV.isCell,xAa] <;> omega) | rfl | decide) only [xR7,WB,hlt,↓reduceIte,h0,xA2,rowsD,g2,xBy,rowT,g4,xV5,n1,xR8,f1]
  ·rw [List.append_assoc] at f2
   have : ntA D cls s i (e + 1) = ntQ D cls s i 0 (two D.vars) ++ ntA D cls s (i + 1) e := by
    unfold ntA; rw [List.range'_succ,List.flatMap_cons]
   rw [this]; exact f2
end
def fbB (b : Bool) : List Nat := if b then [116,114,117,101] else [102,97,108,115,101]
def fbS (b : Bool) : ByteArray := if b then ⟨#[116,114,117,101]⟩ else ⟨#[102,97,108,115,101]⟩
theorem yIm (b : Bool) : L.pcall 121 [.bool b] = some (.str (fbS b)) := by
 cases b <;> rw [yHU,yHG,xAf]
 ·simp (maxSteps := 30000000) (disch := first | assumption | omega | (simp only [WL,AV.isCell,xAa] <;> omega) | rfl | decide) only [WB,Nat.reduceSub,↓reduceIte]
  rfl
 ·simp (maxSteps := 30000000) (disch := first | assumption | omega | (simp only [WL,AV.isCell,xAa] <;> omega) | rfl | decide) only [WB,Nat.reduceSub,↓reduceIte]
  rfl
theorem yIn (b : Bool) : L.pcall 105 [.bool b] = some (.str (fbS b)) := by
 have h := yIm b
 rw [yHQ,yHD,xAf]
 simp (maxSteps := 30000000) (disch := first | assumption | omega | (simp only [WL,AV.isCell,xAa] <;> omega) | rfl | decide) only [WB,Nat.reduceSub,h,xA0,xAx,↓reduceIte]
theorem yBr (b : Bool) : xBv (fbS b) = bs (fbB b) ∧ (fbS b).size = (fbB b).length := by cases b <;> exact ⟨rfl,rfl⟩
def xFU (D : Da) (cls : List Int) (s : Nat) : List Nat := fbB (D.fin.getD s false) ++ xCI cls s ++ ntA D cls s 0 D.next.length
end Go.Abs.Det
