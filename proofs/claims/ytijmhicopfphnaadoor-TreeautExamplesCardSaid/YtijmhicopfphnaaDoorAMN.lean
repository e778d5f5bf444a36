/- Sets of numbers as words: bitset. -/
import Derived.Test.YtijmhicopfphnaaDoorAbsBun
import Derived.Test.YtijmhicopfphnaaDoorAProg
import Derived.Test.YtijmhicopfphnaaDoorAbsEnc2
namespace Go.Abs.Tree
open Go Go.Abs
set_option linter.unusedSimpArgs false
set_option linter.unusedVariables false
noncomputable abbrev L : Rec := lim xAo
abbrev sw (z : Bool) (l : List Nat) : AV := .sl z l.length (w64 l)
def W (l : List Nat) : Prop := ∀ x ∈ l,x < 18446744073709551616
theorem W.get {l : List Nat} (h : W l) (i : Nat) : l.getD i 0 < 18446744073709551616 := by
 rw [List.getD_eq_getElem?_getD]
 cases e : l[i]? with
 | none => simp
 | some x => exact h x (List.mem_of_getElem? e)
theorem xJT {l : List Nat} {i : Nat} (h : l.length ≤ i) : l.getD i 0 = 0 := by
 simp [List.getD,List.getElem?_eq_none h]
theorem yHe (z : Bool) (a : List Nat) (i : Nat) (H : Heap) : L.icall (.func 104 []) [sw z a,.int .i64 (i : Nat)] H = some (.int .u64 (a.getD i 0 : Nat),H) := by
 by_cases hi : i < a.length
 ·have h1 : (i : Int) < (a.length : Nat) := by omega
  rw [yEQ,yFO]
  simp (maxSteps := 30000000) (disch := first | assumption | omega | (simp only [WL,AV.isCell] <;> omega) | rfl | decide) only [WB,Nat.reduceAdd,Nat.reduceSub,h1,↓reduceIte,xEW,xDy,xGk]
 ·have h1 : ¬ (i : Int) < (a.length : Nat) := by omega
  rw [xJT (by omega),yEQ,yFO]
  simp (maxSteps := 30000000) (disch := first | assumption | omega | (simp only [WL,AV.isCell] <;> omega) | rfl | decide) only [WB,Nat.reduceAdd,Nat.reduceSub,h1,↓reduceIte]
theorem yIo (x y : Nat) (H : Heap) (hx : x < 18446744073709551616) (hy : y < 18446744073709551616) : L.icall (.func 106 []) [.int .u64 (x : Nat),.int .u64 (y : Nat)] H = some (.int .u64 (x ||| y : Nat),H) := by
 have h := yDA hx hy
 rw [yGg,yGb]
 simp (disch := omega) only [WB,Nat.reduceAdd,Nat.reduceSub,h]
def xKK (op : Nat → Nat → Nat) (a b : List Nat) (n : Nat) : List Nat := (List.range n).map fun i => op (a.getD i 0) (b.getD i 0)
theorem xJC (op : Nat → Nat → Nat) (a b : List Nat) (n : Nat) : (xKK op a b n).length = n := by simp [xKK]
theorem xYj (op : Nat → Nat → Nat) (a b : List Nat) (n : Nat) : xKK op a b n ++ [op (a.getD n 0) (b.getD n 0)] = xKK op a b (n + 1) := by simp [xKK,List.range_succ]
def xVU : Nat → AV
 | 0 => .sl true 0 []
 | k + 1 => .own false k 0 (k + 1) 1
def xPE (op : Nat → Nat → Nat) (a b : List Nat) : Nat → Heap
 | 0 => []
 | k + 1 => List.replicate k .dead ++ [.cells false false (w64 (xKK op a b (k + 1)))]
theorem xSC {g : Nat} {op : Nat → Nat → Nat} {a b : List Nat} {za zb : Bool} {N : Nat} (hN : N ≤ 64)
  (hop : ∀ x y H,x < 18446744073709551616 → y < 18446744073709551616 → L.icall (.func g []) [.int .u64 (x : Nat),.int .u64 (y : Nat)] H = some (.int .u64 (op x y : Nat),H)) (wa : W a) (wb : W b) : ∀ d i,i + d = N →
  L.loop xSg yAt ⟨xSh (sw za a) (sw zb b) (.func g []) (.func 104 []) (xVU i) (.int .i64 (N : Nat)) (.int .i64 (i : Nat)),xPE op a b i⟩ =
   some (.exit 0,⟨xSh (sw za a) (sw zb b) (.func g []) (.func 104 []) (xVU N) (.int .i64 (N : Nat)) (.int .i64 (N : Nat)),xPE op a b N⟩)
 | 0,i,h => by
  obtain rfl : i = N := by omega
  rw [xXD]
  simp (maxSteps := 30000000) (disch := first | assumption | omega | (simp only [WL,AV.isCell] <;> omega) | rfl | decide) only [xSf,WB,↓reduceIte,xSi]
 | d + 1,i,h => by
  have hlt : (i : Int) < (N : Nat) := by omega
  have h1 := yHe za a i
  have h2 := yHe zb b i
  have h3 := fun H => hop _ _ H (wa.get i) (wb.get i)
  have ih := xSC (za := za) (zb := zb) hN hop wa wb d (i + 1) (by omega)
  cases i with
  | zero =>
   have hv : w64 (xKK op a b (0 + 1)) = [AV.int .u64 (op (a.getD 0 0) (b.getD 0 0) : Nat)] := rfl
   simp only [xVU,xPE,hv,List.replicate,List.nil_append,Nat.zero_add,Int.natCast_zero,Int.natCast_one] at ih h1 h2 h3 hlt ⊢
   rw [xXD]
   simp (maxSteps := 30000000) (disch := first | assumption | omega | (simp only [WL,AV.isCell] <;> omega) | rfl | decide) only [xSf,WB,hlt,↓reduceIte,h1,h2,h3,AV.cells,AV.isCell,Nat.reduceBEq,xSi,ih]
  | succ k =>
   have hl := xJC op a b (k + 1)
   have htk : List.take (k + 1) (xKK op a b (k + 1)) = xKK op a b (k + 1) := List.take_of_length_le (by omega)
   have hsn : w64 (xKK op a b (k + 1)) ++ [AV.int .u64 (op (a.getD (k + 1) 0) (b.getD (k + 1) 0) : Nat)] = w64 (xKK op a b (k + 1 + 1)) := by rw [xUQ,xYj]
   simp only [xVU,xPE,List.replicate_succ',List.append_assoc,List.cons_append,List.nil_append] at ih ⊢
   rw [xXD]
   simp (maxSteps := 30000000) (disch := first | assumption | omega | (simp only [WL,AV.isCell] <;> omega) | rfl | decide) only [xSf,WB,hlt,↓reduceIte,h1,h2,h3,AV.cells,AV.isCell,W2,Nat.reduceBEq,xDy,htk,hsn,xSi,ih]
def xHS (l : List Nat) : Nat → Nat
 | 0 => 0
 | n + 1 => if l.getD n 0 = 0 then xHS l n else n + 1
theorem xMs (l : List Nat) : ∀ n,xHS l n ≤ n
 | 0 => Nat.le_refl _
 | n + 1 => by unfold xHS; split; have := xMs l n; omega; omega
theorem xOp (l : List Nat) : ∀ n i,xHS l n ≤ i → i < n → l.getD i 0 = 0
 | 0,i,h,h2 => by omega
 | n + 1,i,h,h2 => by
  unfold xHS at h
  split at h
  ·rename_i e
   by_cases hi : i = n
   ·subst hi; exact e
   ·exact xOp l n i h (by omega)
  ·omega
theorem xOq (l : List Nat) : ∀ n,0 < xHS l n → l.getD (xHS l n - 1) 0 ≠ 0
 | 0,h => by simp [xHS] at h
 | n + 1,h => by
  unfold xHS at h ⊢
  split
  ·rename_i e
   rw [if_pos e] at h
   exact xOq l n h
  ·rename_i e; simpa using e
theorem xPF {l : List Nat} {k : Nat} : ∀ n,n ≤ l.length → n ≤ 64 →
  L.loop xPt xXE ⟨xOd (.own false k 0 n 1),List.replicate k .dead ++ [.cells false false (w64 l)]⟩ = some (.exit 2,⟨xOd (.own false k 0 (xHS l n) 1),List.replicate k .dead ++ [.cells false false (w64 l)]⟩)
 | 0,_,_ => by
  rw [xXF]
  simp (maxSteps := 30000000) (disch := first | assumption | omega | (simp only [WL,AV.isCell] <;> omega) | rfl | decide) only [xPs,WB,↓reduceIte,xPu,xHS]
 | n + 1,h,h2 => by
  have h0 : (0 : Int) < ((n + 1 : Nat) : Int) := by omega
  have ih := xPF (l := l) (k := k) n (by omega) (by omega)
  unfold xHS
  rw [xXF]
  by_cases e : l.getD n 0 = 0
  ·have e' : (((l.getD n 0 : Nat) : Int) = 0) = True := eq_true (by omega)
   simp (maxSteps := 30000000) (disch := first | assumption | omega | (simp only [WL,AV.isCell] <;> omega) | rfl | decide) only [xPs,WB,h0,↓reduceIte,Nat.add_sub_cancel,W2,xEW,xDy,xGk,e,xPu,ih]
  ·have e' : (((l.getD n 0 : Nat) : Int) = 0) = False := eq_false (by omega)
   simp (maxSteps := 30000000) (disch := first | assumption | omega | (simp only [WL,AV.isCell] <;> omega) | rfl | decide) only [xPs,WB,h0,↓reduceIte,Nat.add_sub_cancel,W2,xEW,xDy,xGk,e',xPu,e]
theorem yE6 (z : Bool) (k n : Nat) (H : Heap) : L.icall (.func 105 []) [.own z k 0 n 1] H = some (.own z k 0 n 1,H) := by
 rw [yER,yFP]
 simp (disch := omega) only [WB,Nat.reduceSub,W2]
theorem yDx (H : Heap) : L.icall (.func 105 []) [.sl true 0 []] H = some (.sl true 0 [],H) := by
 rw [yER,yFP]
 simp (disch := first | assumption | omega | rfl | decide) only [WB,Nat.reduceSub,W2]
def xKz (op : Nat → Nat → Nat) (a b : List Nat) : List Nat :=
 (xKK op a b (min (max a.length b.length) 64)).take (xHS (xKK op a b (min (max a.length b.length) 64)) (min (max a.length b.length) 64))
theorem yAK {g : Nat} {op : Nat → Nat → Nat} {a b : List Nat} {za zb : Bool} (hop : ∀ x y H,x < 18446744073709551616 → y < 18446744073709551616 → L.icall (.func g []) [.int .u64 (x : Nat),.int .u64 (y : Nat)] H = some (.int .u64 (op x y : Nat),H)) (wa : W a) (wb : W b) :
  (xKz op a b = [] ∧ L.icall (.func 93 []) [sw za a,sw zb b,.func g []] [] = some (.sl true 0 [],[])) ∨
  ∃ k r,L.icall (.func 93 []) [sw za a,sw zb b,.func g []] [] = some (.own false k 0 (xKz op a b).length 1,List.replicate k .dead ++ [.cells false false (w64 (xKz op a b ++ r))]) := by
 unfold xKz
 have hm : min (max (a.length : Int) (b.length : Int)) 64 = ((min (max a.length b.length) 64 : Nat) : Int) := by omega
 have hN : min (max a.length b.length) 64 ≤ 64 := by omega
 have hl := xSC (za := za) (zb := zb) hN hop wa wb (min (max a.length b.length) 64) 0 (by omega)
 generalize min (max a.length b.length) 64 = N at *
 simp only [Int.natCast_zero] at hl
 cases N with
 | zero =>
  refine .inl ⟨by simp [xKK],?_⟩
  simp only [xVU,xPE,Int.natCast_zero] at hl hm
  have hs : L.loop xPt xXE ⟨xOd (.sl true 0 []),[]⟩ = some (.exit 2,⟨xOd (.sl true 0 []),[]⟩) := by
   rw [xXF]
   simp (disch := omega) only [xPs,WB,↓reduceIte,xPu]
  rw [yG5,a93]
  simp (disch := omega) only [WB,Nat.reduceAdd,Nat.reduceSub,hm,xSi,hl,↓reduceIte,xPu,hs,yDx]
 | succ k =>
  simp only [xVU,xPE] at hl
  have hvl := xJC op a b (k + 1)
  have hs := xPF (l := xKK op a b (k + 1)) (k := k) (k + 1) (by omega) hN
  have hle := xMs (xKK op a b (k + 1)) (k + 1)
  generalize xHS (xKK op a b (k + 1)) (k + 1) = n at *
  have hlen : ((xKK op a b (k + 1)).take n).length = n := by rw [List.length_take]; omega
  refine .inr ⟨k,(xKK op a b (k + 1)).drop n,?_⟩
  rw [List.take_append_drop,hlen,yG5,a93]
  simp (disch := omega) only [WB,Nat.reduceAdd,Nat.reduceSub,hm,xSi,hl,↓reduceIte,xPu,hs,yE6]
theorem xYk (op : Nat → Nat → Nat) (a b : List Nat) (h0 : op 0 0 = 0) (i : Nat) (hi : i < 64) : (xKz op a b).getD i 0 = op (a.getD i 0) (b.getD i 0) := by
 unfold xKz
 generalize hN : min (max a.length b.length) 64 = N
 have hv : ∀ i,i < N → (xKK op a b N).getD i 0 = op (a.getD i 0) (b.getD i 0) := fun i hi => by simp [xKK,hi]
 have hle := xMs (xKK op a b N) N
 by_cases h : i < xHS (xKK op a b N) N
 ·rw [← hv i (by omega)]
  simp [List.getD,List.getElem?_take,h]
 ·rw [xJT (by rw [List.length_take,xJC]; omega)]
  by_cases h2 : i < N
  ·rw [← hv i h2]
   exact (xOp _ N i (by omega) h2).symm
  ·rw [xJT (l := a) (by omega),xJT (l := b) (by omega),h0]
theorem xYl (op : Nat → Nat → Nat) (a b : List Nat) : (xKz op a b).length ≤ 64 := by
 unfold xKz
 rw [List.length_take,xJC]; omega
theorem yDy {op : Nat → Nat → Nat} {a b : List Nat} (hop : ∀ x y,x < 18446744073709551616 → y < 18446744073709551616 → op x y < 18446744073709551616) (wa : W a) (wb : W b) : W (xKz op a b) := by
 intro x hx
 have := List.mem_of_mem_take hx
 simp only [xKK,List.mem_map] at this
 obtain ⟨i,_,rfl⟩ := this
 exact hop _ _ (wa.get i) (wb.get i)
theorem xVV (op : Nat → Nat → Nat) (a b : List Nat) (h : xKz op a b ≠ []) : (xKz op a b).getD ((xKz op a b).length - 1) 0 ≠ 0 := by
 unfold xKz at h ⊢
 generalize hN : min (max a.length b.length) 64 = N at *
 have hle := xMs (xKK op a b N) N
 have hl : ((xKK op a b N).take (xHS (xKK op a b N) N)).length = xHS (xKK op a b N) N := by rw [List.length_take,xJC]; omega
 have hp : 0 < xHS (xKK op a b N) N := by
  rw [← hl]; exact List.length_pos_iff.2 h
 rw [hl]
 have := xOq _ N hp
 rw [show ((xKK op a b N).take (xHS (xKK op a b N) N)).getD (xHS (xKK op a b N) N - 1) 0 = (xKK op a b N).getD (xHS (xKK op a b N) N - 1) 0 from by
  simp [List.getD,List.getElem?_take,show xHS (xKK op a b N) N - 1 < xHS (xKK op a b N) N by omega]]
 exact this
def mem (l : List Nat) (j : Nat) : Bool := decide (j < 4096) && (l.getD (j / 64) 0).testBit (j % 64)
theorem yAL {op : Nat → Nat → Nat} {f : Bool → Bool → Bool} (a b : List Nat) (h0 : op 0 0 = 0) (hf : ∀ x y i,(op x y).testBit i = f (x.testBit i) (y.testBit i)) (j : Nat) (hj : j < 4096) : mem (xKz op a b) j = f (mem a j) (mem b j) := by
 unfold mem
 rw [xYk op a b h0 _ (by omega),hf]
 simp [hj]
def HasSet (v : AV) (S : Nat → Bool) : Prop := ∃ z l,v = sw z l ∧ W l ∧ l.length < 1099511627776 ∧ ∀ j,mem l j = S j
theorem HasSet.out {v : AV} {S : Nat → Bool} (h : HasSet v S) {j : Nat} (hj : 4096 ≤ j) : S j = false := by
 obtain ⟨z,l,rfl,_,_,h⟩ := h
 rw [← h j]
 simp [mem,show ¬ j < 4096 by omega]
theorem HasSet.congr {v : AV} {S T : Nat → Bool} (h : HasSet v S) (e : ∀ j,S j = T j) : HasSet v T := by
 obtain ⟨z,l,rfl,w,hl,h⟩ := h
 exact ⟨z,l,rfl,w,hl,fun j => (h j).trans (e j)⟩
theorem xYm {z : Bool} : HasSet (.sl z 0 []) (fun _ => false) := ⟨z,[],rfl,by intro x hx; simp at hx,by simp,fun j => by simp [mem]⟩
theorem xNg {x y : Nat} (hx : x < 18446744073709551616) (hy : y < 18446744073709551616) : x ||| y < 18446744073709551616 := by
 have : x ||| y < 2 ^ 64 := Nat.or_lt_two_pow (by omega) (by omega)
 omega
def OwnS (v : AV) (B : List Blk) (l : List Nat) : Prop := (v = .sl true 0 [] ∧ B = [] ∧ l = []) ∨ ∃ r,v = .own false 0 0 l.length 1 ∧ B = [.cells false false (w64 (l ++ r))]
theorem xYn {za zb : Bool} {a b : List Nat} (wa : W a) (wb : W b) (ha : a.length < 1099511627776) (hb : b.length < 1099511627776) : ∃ v B,xCG L 95 [sw za a,sw zb b] = some (v,B) ∧ OwnS v B (xKz (· ||| ·) a b) := by
 rcases yAK (za := za) (zb := zb) (g := 106) (op := (· ||| ·)) (fun x y H hx hy => yIo x y H hx hy) wa wb with ⟨h1,h2⟩ | ⟨k,r,h⟩
 ·refine ⟨.sl true 0 [],[],?_,.inl ⟨rfl,rfl,h1⟩⟩
  rw [xBI,yG6,a95,xAp]
  simp (disch := omega) only [WB,Nat.reduceAdd,Nat.reduceSub,h2,WP]
 ·refine ⟨.own false 0 0 (xKz (· ||| ·) a b).length 1,[.cells false false (w64 (xKz (· ||| ·) a b ++ r))],?_,.inr ⟨r,rfl,rfl⟩⟩
  rw [xBI,yG6,a95,xAp]
  simp (disch := omega) only [WB,Nat.reduceAdd,Nat.reduceSub,h,WP,W2,↓reduceIte]
def CanS (l : List Nat) (S : Nat → Bool) : Prop := W l ∧ l.length ≤ 64 ∧ (l ≠ [] → l.getD (l.length - 1) 0 ≠ 0) ∧ ∀ j,mem l j = S j
theorem CanS.has {l : List Nat} {S : Nat → Bool} (h : CanS l S) (z : Bool) : HasSet (sw z l) S := ⟨z,l,rfl,h.1,by have := h.2.1; omega,h.2.2.2⟩
theorem CanS.congr {l : List Nat} {S T : Nat → Bool} (h : CanS l S) (e : ∀ j,S j = T j) : CanS l T := ⟨h.1,h.2.1,h.2.2.1,fun j => (h.2.2.2 j).trans (e j)⟩
theorem canS_nil : CanS [] (fun _ => false) := ⟨by intro x hx; simp at hx,by simp,by simp,fun j => by simp [mem]⟩
theorem xUP {l : List Nat} {i t : Nat} (hi : i < 64) (ht : t < 64) : mem l (64 * i + t) = (l.getD i 0).testBit t := by
 unfold mem
 rw [show (64 * i + t) / 64 = i by omega,show (64 * i + t) % 64 = t by omega,decide_eq_true (by omega : 64 * i + t < 4096),Bool.true_and]
theorem CanS.get {a b : List Nat} {S : Nat → Bool} (h : CanS a S) (k : CanS b S) (i : Nat) (hi : i < 64) : a.getD i 0 = b.getD i 0 := by
 apply Nat.eq_of_testBit_eq
 intro t
 by_cases ht : t < 64
 ·rw [← xUP hi ht,← xUP hi ht,h.2.2.2,k.2.2.2]
 ·have big : ∀ x,x < 18446744073709551616 → x.testBit t = false := fun x hx => Nat.testBit_lt_two_pow (Nat.lt_of_lt_of_le hx (by
   have : 2 ^ 64 ≤ 2 ^ t := Nat.pow_le_pow_right (by omega) (by omega)
   omega))
  rw [big _ (h.1.get i),big _ (k.1.get i)]
theorem CanS.uniq {a b : List Nat} {S : Nat → Bool} (h : CanS a S) (k : CanS b S) : a = b := by
 have la := h.2.1
 have lb := k.2.1
 have hlen : a.length = b.length := by
  rcases Nat.lt_trichotomy a.length b.length with q | q | q
  ·exfalso
   refine k.2.2.1 (by intro e; rw [e] at q; simp at q) ?_
   rw [← h.get k _ (by omega)]
   exact xJT (by omega)
  ·exact q
  ·exfalso
   refine h.2.2.1 (by intro e; rw [e] at q; simp at q) ?_
   rw [h.get k _ (by omega)]
   exact xJT (by omega)
 apply List.ext_getElem hlen
 intro i h1 h2
 have := h.get k i (by omega)
 simpa [List.getD,List.getElem?_eq_getElem h1,List.getElem?_eq_getElem h2] using this
theorem xYo {za zb : Bool} {a b : List Nat} {S T : Nat → Bool} (hv : HasSet (sw za a) S) (hu : HasSet (sw zb b) T) (wa : W a) (wb : W b) (ha : ∀ j,mem a j = S j) (hb : ∀ j,mem b j = T j) : CanS (xKz (· ||| ·) a b) (fun j => S j || T j) := by
 refine ⟨yDy (fun x y hx hy => xNg hx hy) wa wb,xYl _ _ _,fun h => xVV _ _ _ h,fun j => ?_⟩
 by_cases hj : j < 4096
 ·rw [yAL (f := (· || ·)) a b (by simp) (fun x y i => by simp) j hj,ha,hb]
 ·show mem _ j = (S j || T j)
  rw [hv.out (j := j) (by omega),hu.out (j := j) (by omega)]
  simp [mem,hj]
abbrev iw (z : Bool) (l : List Int) : AV := .sl z l.length (xD8 l)
theorem xHA {l : List Int} {i : Nat} (h : i < l.length) : l.drop i = l.getD i 0 :: l.drop (i + 1) := by
 rw [List.drop_eq_getElem_cons h]
 simp [List.getD,List.getElem?_eq_getElem h]
def yAM (p n x : Nat) : Bool := decide (x &&& p = p) && decide (x &&& n = 0)
theorem yDz (p n x : Nat) (hp : p < 256) (hn : n < 256) (hx : x < 256) : L.pcall 83 [.agg [.int .u8 (p : Nat),.int .u8 (n : Nat)],.int .u8 (x : Nat)] = some (.bool (yAM p n x)) := by
 have h1 := yEl hx hp
 have h2 := yEl hx hn
 have e1 : (((x &&& p : Nat) : Int) = ((p : Nat) : Int)) = (x &&& p = p) := propext ⟨fun h => by omega,fun h => by omega⟩
 have e2 : (((x &&& n : Nat) : Int) = 0) = (x &&& n = 0) := propext ⟨fun h => by omega,fun h => by omega⟩
 unfold yAM
 rw [yIg,a83,xAd]
 by_cases c1 : x &&& p = p <;> by_cases c2 : x &&& n = 0 <;> simp (maxSteps := 30000000) (disch := first | assumption | omega | (simp only [WL,AV.isCell] <;> omega) | rfl | decide) only [WB,Nat.reduceAdd,Nat.reduceSub,AV.cells,AV.isCell,↓reduceIte,h1,c1,h2,c2,e2,e1]
def xLh (v p n : Nat) : Int := if 2 ^ v ≤ p ||| n then 7 else if p &&& n = 0 then 0 else 2
theorem yHf {v : Nat} (hv : v ≤ 6) : IntKind.i64.wrap (1 * 2 ^ min v IntKind.i64.bits) = ((2 ^ v : Nat) : Int) := by
 have : v = 0 ∨ v = 1 ∨ v = 2 ∨ v = 3 ∨ v = 4 ∨ v = 5 ∨ v = 6 := by omega
 rcases this with rfl | rfl | rfl | rfl | rfl | rfl | rfl <;> rfl
theorem xYp (v p n : Nat) (hv : v ≤ 6) (hp : p < 256) (hn : n < 256) : L.pcall 45 [.agg [.int .u8 (p : Nat),.int .u8 (n : Nat)],.int .i64 (v : Nat)] = some (.int .i64 (xLh v p n)) := by
 have h1 := or8 hp hn
 have h2 := yEl hp hn
 have h3 : ¬ ((6 : Int) < (v : Nat)) := by omega
 have hor : p ||| n < 256 := by
  have := Nat.or_lt_two_pow (x := p) (y := n) (n := 8) (by omega) (by omega)
  omega
 have e1 : (((2 ^ v : Nat) : Int) ≤ ((p ||| n : Nat) : Int)) = (2 ^ v ≤ p ||| n) := propext ⟨fun h => by omega,fun h => by omega⟩
 have e2 : (((p &&& n : Nat) : Int) = 0) = (p &&& n = 0) := propext ⟨fun h => by omega,fun h => by omega⟩
 have hsh := yHf hv
 unfold xLh
 rw [yH1,a45,xAd]
 by_cases c1 : 2 ^ v ≤ p ||| n
 ·simp (maxSteps := 30000000) (disch := first | assumption | omega | (simp only [WL,AV.isCell] <;> omega) | rfl | decide) only [WB,Nat.reduceAdd,Nat.reduceSub,AV.cells,AV.isCell,↓reduceIte,h3,h1,xAm,hsh,e1,c1]
 ·by_cases c2 : p &&& n = 0 <;> simp (maxSteps := 30000000) (disch := first | assumption | omega | (simp only [WL,AV.isCell] <;> omega) | rfl | decide) only [WB,Nat.reduceAdd,Nat.reduceSub,AV.cells,AV.isCell,↓reduceIte,h3,h1,xAm,hsh,e1,c1,h2,c2,e2]
end Go.Abs.Tree
