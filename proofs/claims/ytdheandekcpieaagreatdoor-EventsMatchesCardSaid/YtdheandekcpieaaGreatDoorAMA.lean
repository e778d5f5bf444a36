/- Words for a heap that is not looked into; nodes and tables as data; bits. -/
import Derived.Test.YtdheandekcpieaaGreatDoorAProg
import Derived.Test.YtdheandekcpieaaGreatDoorAbsBun
import Derived.Test.YtdheandekcpieaaGreatDoorAbsEnc2
namespace Go.Abs.Events
open Go Go.Abs
set_option maxHeartbeats 4000000
set_option linter.unusedSimpArgs false
set_option linter.unusedVariables false
noncomputable abbrev L : Rec := lim xAk
section
variable {G l : Heap} {b : Blk} {f : Blk → Blk} {j k n : Nat}
theorem xAS (h : k < G.length) : (G ++ l)[k]? = G[k]? := List.getElem?_append_left h
theorem xH6 (h : G.length = n) : (G ++ l)[n + k]? = l[k]? := by subst h; exact xNt G l k
theorem xBq (h : G.length = n) : (G ++ l)[n]? = l[0]? := by subst h; exact yEi G l
theorem xDp (h : k < G.length) : (G ++ l).set k b = G.set k b ++ l := List.set_append_left k b h
theorem xUQ (h : G.length = n) : (G ++ l).set (n + k) b = G ++ l.set k b := by subst h; exact hset G l k b
theorem xBG (h : G.length = n) : (G ++ l).set n b = G ++ l.set 0 b := by subst h; exact yEj G l b
theorem xBH (h : j ≠ k) : (G.set j b)[k]? = G[k]? := List.getElem?_set_ne h
theorem xEJ (h : k < G.length) : (G.set k b)[k]? = some b := List.getElem?_set_self h
theorem xA4 {x : Blk} (h : G[k]? = some x) : k < G.length := (List.getElem?_eq_some_iff.1 h).1
end
def Kp (B : Nat) (H H' : Heap) : Prop := H.length ≤ H'.length ∧ ∀ b,b < B → H'[b]? = H[b]?
theorem Kp.refl (B : Nat) (H : Heap) : Kp B H H := ⟨Nat.le_refl _,fun _ _ => rfl⟩
theorem Kp.trans {B : Nat} {H H' H2 : Heap} (h : Kp B H H') (h2 : Kp B H' H2) : Kp B H H2 := ⟨Nat.le_trans h.1 h2.1,fun b hb => (h2.2 b hb).trans (h.2 b hb)⟩
theorem Kp.low {B B' : Nat} {H H' : Heap} (h : Kp B H H') (hb : B' ≤ B) : Kp B' H H' := ⟨h.1,fun b q => h.2 b (by omega)⟩
theorem Kp.get {B : Nat} {H H' : Heap} (h : Kp B H H') {b : Nat} {x : Option Blk} (hb : b < B) (hx : H[b]? = x) : H'[b]? = x := (h.2 b hb).trans hx
theorem Kp.app (H l : Heap) : Kp H.length H (H ++ l) := ⟨by simp,fun b hb => List.getElem?_append_left hb⟩
theorem Kp.appB {B : Nat} (H l : Heap) (h : B ≤ H.length) : Kp B H (H ++ l) := (Kp.app H l).low h
theorem Kp.set {B k : Nat} {H : Heap} {x : Blk} (h : B ≤ k) : Kp B H (H.set k x) := ⟨by simp,fun b hb => List.getElem?_set_ne (by omega)⟩
def wdN (f : Nat → Bool) : Nat → Nat
 | 0 => 0
 | n + 1 => wdN f n ||| (if f n then 2 ^ n else 0)
theorem xBe (f : Nat → Bool) : ∀ n k,(wdN f n).testBit k = (decide (k < n) && f k)
 | 0,k => by simp [wdN]
 | n + 1,k => by
  rw [wdN,Nat.testBit_or,xBe f n k]
  by_cases h : f n = true
  ·rw [if_pos h,Nat.testBit_two_pow]
   by_cases e : n = k
   ·subst e; simp [h]
   ·have : (k < n + 1) = (k < n) := by rw [eq_iff_iff]; omega
    simp [e,this]
  ·rw [if_neg h]
   by_cases e : n = k
   ·subst e; simp at h; simp [h]
   ·have : (k < n + 1) = (k < n) := by rw [eq_iff_iff]; omega
    simp [this]
theorem xUR (f : Nat → Bool) (n : Nat) : wdN f n < 2 ^ n := by
 induction n with
 | zero => simp [wdN]
 | succ n ih =>
  rw [wdN]
  refine Nat.or_lt_two_pow (Nat.lt_of_lt_of_le ih (Nat.pow_le_pow_right (by omega) (by omega))) ?_
  split
  ·exact Nat.pow_lt_pow_right (by omega) (by omega)
  ·exact Nat.two_pow_pos _
theorem xDT {f g : Nat → Bool} {n : Nat} (h : ∀ k,k < n → f k = g k) : wdN f n = wdN g n := by
 refine Nat.eq_of_testBit_eq fun k => ?_
 rw [xBe,xBe]
 by_cases c : k < n
 ·rw [h k c]
 ·simp [c]
theorem yAf (f : Nat → Bool) {n k : Nat} (hk : k < n) : wdN f n ||| 2 ^ k = wdN (fun j => f j || j == k) n := by
 refine Nat.eq_of_testBit_eq fun j => ?_
 rw [Nat.testBit_or,xBe,xBe,Nat.testBit_two_pow]
 by_cases e : k = j
 ·subst e; simp [hk]
 ·have : (j == k) = false := by simpa using fun h => e h.symm
  simp [e,this]
theorem yCF (f g : Nat → Bool) (n : Nat) : wdN f n ||| wdN g n = wdN (fun j => f j || g j) n := by
 refine Nat.eq_of_testBit_eq fun j => ?_
 rw [Nat.testBit_or,xBe,xBe,xBe]
 cases decide (j < n) <;> simp
theorem yAg (f g : Nat → Bool) (n : Nat) : wdN f n &&& wdN g n = wdN (fun j => f j && g j) n := by
 refine Nat.eq_of_testBit_eq fun j => ?_
 rw [Nat.testBit_and,xBe,xBe,xBe]
 cases decide (j < n) <;> simp
theorem xGN (n : Nat) : wdN (fun _ => false) n = 0 := by
 refine Nat.eq_of_testBit_eq fun j => ?_
 rw [xBe]; simp
abbrev Q := Nat → Bool
def tw (q : Q) : List Nat := (List.range 8).map fun a => wdN (fun k => q (64 * a + k)) 64
theorem xAd (q : Q) : (tw q).length = 8 := by simp [tw]
theorem xRd (q : Q) {a : Nat} (h : a < 8) : (tw q).getD a 0 = wdN (fun k => q (64 * a + k)) 64 := by
 unfold tw
 rw [List.getD_eq_getElem?_getD,List.getElem?_map,List.getElem?_range h]; rfl
theorem xDU {p q : Q} (h : ∀ j,j < 512 → p j = q j) : tw p = tw q := by
 unfold tw
 refine List.map_congr_left fun a ha => ?_
 rw [List.mem_range] at ha
 exact xDT fun k hk => h _ (by omega)
theorem yEB (q : Q) (a : Nat) : (tw q).getD a 0 < 18446744073709551616 := by
 by_cases h : a < 8
 ·rw [xRd q h]; exact xUR _ 64
 ·rw [List.getD_eq_getElem?_getD,List.getElem?_eq_none (by rw [xAd]; omega)]; simp
theorem xH7 {l l' : List Nat} (h : l.length = 8) (h' : l'.length = 8) (he : ∀ a,a < 8 → l.getD a 0 = l'.getD a 0) : l = l' := by
 apply List.ext_getElem (by omega)
 intro i h1 h2
 have := he i (by omega)
 simpa [List.getD_eq_getElem?_getD,List.getElem?_eq_getElem h1,List.getElem?_eq_getElem h2] using this
theorem yCG (q : Q) {a k : Nat} (ha : a < 8) (hk : k < 64) : (tw q).set a ((tw q).getD a 0 ||| 2 ^ k) = tw (fun j => q j || j == 64 * a + k) := by
 refine xH7 (by simp [xAd]) (xAd _) fun i hi => ?_
 rw [xRd _ hi]
 by_cases e : i = a
 ·subst e
  have : ((tw q).set i ((tw q).getD i 0 ||| 2 ^ k)).getD i 0 = (tw q).getD i 0 ||| 2 ^ k := by
   rw [List.getD_eq_getElem?_getD,List.getElem?_set_self (by rw [xAd]; omega)]; rfl
  rw [this,xRd _ hi,yAf _ hk]
  refine xDT fun j hj => ?_
  have : (64 * i + j == 64 * i + k) = (j == k) := by rw [Bool.eq_iff_iff]; simp
  simp only [this]
 ·have : ((tw q).set a ((tw q).getD a 0 ||| 2 ^ k)).getD i 0 = (tw q).getD i 0 := by
   rw [List.getD_eq_getElem?_getD,List.getElem?_set_ne (fun h => e h.symm),← List.getD_eq_getElem?_getD]
  rw [this,xRd _ hi]
  refine xDT fun j hj => ?_
  have : (64 * i + j == 64 * a + k) = false := by rw [beq_eq_false_iff_ne]; omega
  simp [this]
theorem yAh {l : List Nat} {k : Nat} (h : k < l.length) : w64 (List.take 1 (List.drop k l)) = [AV.int .u64 (l.getD k 0 : Nat)] := by
 rw [List.drop_eq_getElem_cons h,List.take_succ_cons,List.take_zero]
 simp [w64,List.getD_eq_getElem?_getD,List.getElem?_eq_getElem h]
theorem yCH {k : Nat} (h : k < 64) : IntKind.u64.wrap (1 * 2 ^ min k IntKind.u64.bits) = ((2 ^ k : Nat) : Int) := by
 have e : min k IntKind.u64.bits = k := Nat.min_eq_left (by show k ≤ 64; omega)
 rw [e]
 have h2 : 2 ^ k < 18446744073709551616 := Nat.lt_of_lt_of_le (Nat.pow_lt_pow_right (by omega) h) (Nat.le_refl (2 ^ 64))
 rw [Int.one_mul]
 have : ((2 : Int) ^ k) = ((2 ^ k : Nat) : Int) := by simp
 rw [this]
 exact xRe h2
def xA2 (z : Bool) (l : List Int) : AV := .sl z l.length (xAB l)
def Nd.c (n : Nd) : List AV := [.int .u8 (n.op : Nat),.int .i64 n.name,xA2 n.z n.args,.int .i64 n.x,.int .i64 n.a,.int .i64 n.b]
theorem Nd.cl (n : Nd) : n.c.length = 6 := rfl
abbrev nds (l : List Nd) : List AV := rows Nd.c l
theorem xAb (l : List Nd) : (nds l).length = l.length * 6 := xEK (enc := Nd.c) (k := 6) (fun _ => rfl) l
theorem xAs {l : List Nd} {i : Nat} (h : i < l.length) : List.take 6 (List.drop (i * 6) (nds l)) = (l.getD i nd0).c := by
 rw [xFp (enc := Nd.c) (k := 6) (fun _ => rfl),List.drop_eq_getElem_cons h]
 have : rows Nd.c (l[i] :: l.drop (i + 1)) = l[i].c ++ rows Nd.c (l.drop (i + 1)) := rfl
 rw [this,List.take_append_of_le_length (by simp [Nd.cl]),List.take_of_length_le (by simp [Nd.cl]),List.getD_eq_getElem?_getD,List.getElem?_eq_getElem h]
 rfl
theorem D1 {p : Prop} (h : p := by first | assumption | omega | (simp only [WL,AV.isCell] <;> omega) | rfl | decide) : p := h
theorem xQj {G : Heap} {o a b c : Nat} {q : Q} (ho : G[o]? = some (.cells false false (w64 (tw q)))) (ha : a < 8) (hb : b < 8) (hc : c < 8) :
  L.icall (.func 122 []) [.ptr o 0,.int .i64 (a : Nat),.int .i64 (b : Nat),.int .i64 (c : Nat)] G = some (.tup [],G.set o (.cells false false (w64 (tw fun j => q j || j == 64 * a + (8 * b + c))))) := by
 rw [← yCG q ha (show 8 * b + c < 64 by omega),yEe,yDW,xAu]
 have hl := xAd q
 have hk := yCH (show 8 * b + c < 64 by omega)
 have h1 := yEB q a
 have h2 : 2 ^ (8 * b + c) < 18446744073709551616 := Nat.lt_of_lt_of_le (Nat.pow_lt_pow_right (by omega) (show 8 * b + c < 64 by omega)) (Nat.le_refl (2 ^ 64))
 generalize 2 ^ (8 * b + c) = P at *
 rw [← show (8 * (b : Int) + (c : Int)).toNat = 8 * b + c by omega] at hk
 simp (maxSteps := 30000000) (disch := first|exact D1|fail) only [WB,Nat.reduceAdd,Nat.reduceSub,WA,ho,xDg,xAJ,xF6,hk,yDm h1 h2,xAn,AV.cells,↓reduceIte,W2]
def tv (t : Int) (a b c : Nat) : Int := if t < 8 then t else if t = 8 then a else if t = 9 then b else c
theorem yAi {G : Heap} {ia ib ic a b c : Nat} {t : Int} (ga : G[ia]? = some (.cells false false [.int .i64 (a : Nat)])) (gb : G[ib]? = some (.cells false false [.int .i64 (b : Nat)])) (gc : G[ic]? = some (.cells false false [.int .i64 (c : Nat)])) (ht : t ≤ 10) (ht0 : 0 ≤ t) :
  L.icall (.func 121 [.ptr ia 0,.ptr ib 0,.ptr ic 0]) [.int .i64 t] G = some (.int .i64 (tv t a b c),G) := by
 rw [yEd,yBI,xAu]
 unfold tv
 by_cases h8 : t < 8
 ·simp only [h8,if_true]
  simp (maxSteps := 30000000) (disch := first|exact D1|fail) only [WB,Nat.reduceAdd,Nat.reduceSub,h8,↓reduceIte]
 ·have h3 : t = 8 ∨ t = 9 ∨ t = 10 := by omega
  rcases h3 with rfl | rfl | rfl
  ·simp (maxSteps := 30000000) (disch := first|exact D1|fail) only [WB,Nat.reduceAdd,Nat.reduceSub,↓reduceIte,ga,gb,gc,AV.cells,Nat.reduceLeDiff,AV.isCell,Int.reduceSub,WA]
  ·simp (maxSteps := 30000000) (disch := first|exact D1|fail) only [WB,Nat.reduceAdd,Nat.reduceSub,Int.reduceLT,↓reduceIte,ga,gb,gc,AV.cells,Nat.reduceLeDiff,AV.isCell,Int.reduceSub,WA,Int.reduceEq]
  ·simp (maxSteps := 30000000) (disch := first|exact D1|fail) only [WB,Nat.reduceAdd,Nat.reduceSub,Int.reduceLT,↓reduceIte,ga,gb,gc,AV.cells,Nat.reduceLeDiff,AV.isCell,Int.reduceSub,WA,Int.reduceToNat,Int.reduceEq]
theorem xUS {a b c : Nat} {t : Int} (ht : t ≤ 10) (ht0 : 0 ≤ t) :
  L.pcall 121 [.int .i64 t,.vptr [.int .i64 (a : Nat)] 0,.vptr [.int .i64 (b : Nat)] 0,.vptr [.int .i64 (c : Nat)] 0] = some (.int .i64 (tv t a b c)) := by
 rw [yEc,yBI,xAa]
 unfold tv
 by_cases h8 : t < 8
 ·simp only [h8,if_true]
  simp (maxSteps := 30000000) (disch := first|exact D1|fail) only [WB,Nat.reduceAdd,Nat.reduceSub,h8,↓reduceIte]
 ·have h3 : t = 8 ∨ t = 9 ∨ t = 10 := by omega
  rcases h3 with rfl | rfl | rfl
  ·simp (maxSteps := 30000000) (disch := first|exact D1|fail) only [WB,Nat.reduceAdd,Nat.reduceSub,↓reduceIte,AV.cells,Nat.reduceLeDiff,AV.isCell,Int.reduceSub,WA]
  ·simp (maxSteps := 30000000) (disch := first|exact D1|fail) only [WB,Nat.reduceAdd,Nat.reduceSub,Int.reduceLT,↓reduceIte,AV.cells,Nat.reduceLeDiff,AV.isCell,Int.reduceSub,WA,Int.reduceEq]
  ·simp (maxSteps := 30000000) (disch := first|exact D1|fail) only [WB,Nat.reduceAdd,Nat.reduceSub,Int.reduceLT,↓reduceIte,AV.cells,Nat.reduceLeDiff,AV.isCell,Int.reduceSub,WA,Int.reduceToNat,Int.reduceEq]
def Kt (B T : Nat) (G G' : Heap) : Prop := G.length ≤ G'.length ∧ ∀ b,b < B → b ≠ T → G'[b]? = G[b]?
theorem Kt.refl (B T : Nat) (G : Heap) : Kt B T G G := ⟨Nat.le_refl _,fun _ _ _ => rfl⟩
theorem Kt.trans {B T : Nat} {G G' G2 : Heap} (h : Kt B T G G') (h2 : Kt B T G' G2) : Kt B T G G2 := ⟨Nat.le_trans h.1 h2.1,fun b hb ht => (h2.2 b hb ht).trans (h.2 b hb ht)⟩
theorem Kt.low {B B' T : Nat} {G G' : Heap} (h : Kt B T G G') (hb : B' ≤ B) : Kt B' T G G' := ⟨h.1,fun b q => h.2 b (by omega)⟩
theorem Kt.get {B T : Nat} {H H' : Heap} (h : Kt B T H H') {b : Nat} {x : Option Blk} (hb : b < B) (ht : b ≠ T) (hx : H[b]? = x) : H'[b]? = x := (h.2 b hb ht).trans hx
theorem Kp.kt {B T : Nat} {G G' : Heap} (h : Kp B G G') : Kt B T G G' := ⟨h.1,fun b hb _ => h.2 b hb⟩
theorem Kt.kp {B T : Nat} {G G' : Heap} (h : Kt B T G G') (hT : B ≤ T) : Kp B G G' := ⟨h.1,fun b hb => h.2 b hb (by omega)⟩
theorem Kt.set {B T : Nat} {G : Heap} {x : Blk} : Kt B T G (G.set T x) := ⟨by simp,fun b _ ht => List.getElem?_set_ne (by omega)⟩
def xOA (hv : AV) (G0 : Heap) (p : Q) : Prop := ∀ (G : Heap) (ia ib ic a b c : Nat),Kp G0.length G0 G → a < 8 → b < 8 → c < 8 →
 G[ia]? = some (.cells false false [.int .i64 (a : Nat)]) → G[ib]? = some (.cells false false [.int .i64 (b : Nat)]) → G[ic]? = some (.cells false false [.int .i64 (c : Nat)]) →
 ∃ G',L.icall hv [.func 121 [.ptr ia 0,.ptr ib 0,.ptr ic 0]] G = some (.bool (p (64 * a + (8 * b + c))),G') ∧ Kp G.length G G'
def xAQ (p : Q) (n : Nat) : Q := fun j => decide (j < n) && p j
theorem xW0 {p : Q} {n : Nat} (h : p n = true) : tw (fun j => xAQ p n j || j == n) = tw (xAQ p (n + 1)) := by
 refine xDU fun j _ => ?_
 unfold xAQ
 by_cases e : j = n
 ·subst e; simp [h]
 ·have h1 : (j == n) = false := by simpa using e
  have h2 : (j < n + 1) = (j < n) := by rw [eq_iff_iff]; omega
  simp [h1,h2]
theorem yAj {p : Q} {n : Nat} (h : p n = false) : tw (xAQ p n) = tw (xAQ p (n + 1)) := by
 refine xDU fun j _ => ?_
 unfold xAQ
 by_cases e : j = n
 ·subst e; simp [h]
 ·have h2 : (j < n + 1) = (j < n) := by rw [eq_iff_iff]; omega
  simp [h2]
theorem xNj (p : Q) : w64 (tw (xAQ p 0)) = [.int .u64 0,.int .u64 0,.int .u64 0,.int .u64 0,.int .u64 0,.int .u64 0,.int .u64 0,.int .u64 0] := by
 have : tw (xAQ p 0) = tw (fun _ => false) := xDU fun j _ => by simp [xAQ]
 rw [this]
 have : tw (fun _ => false) = List.replicate 8 0 := by
  unfold tw
  simp only [xGN]
  rfl
 rw [this]; rfl
theorem xQk (p : Q) : tw (xAQ p 512) = tw p := xDU fun j h => by simp [xAQ,h]
section
variable {hv : AV} {o ia ib a b : Nat} {G0 : Heap} {p : Q}
abbrev FC (hv : AV) (o ia ib : Nat) (s7 s10 : AV) (c : Nat) : List AV := xFL hv (.ptr o 0) (.ptr ia 0) (.ptr ib 0) s7 s10 (.int .i64 (c : Nat))
theorem yAk (hh : xOA hv G0 p) (ha : a < 8) (hb : b < 8) (s7 s10 : AV) : ∀ e c,c + e = 8 → ∀ G,Kp G0.length G0 G → G0.length ≤ o → o ≠ ia → o ≠ ib → G[o]? = some (.cells false false (w64 (tw (xAQ p (64 * a + (8 * b + c)))))) →
  G[ia]? = some (.cells false false [.int .i64 (a : Nat)]) → G[ib]? = some (.cells false false [.int .i64 (b : Nat)]) →
  ∃ G',L.loop xFK xM4 ⟨FC hv o ia ib s7 s10 c,G⟩ = some (.exit 4,⟨xFL hv (.ptr o 0) (.ptr ia 0) (.ptr ib 0) s7 s10 (.int .i64 8),G'⟩) ∧ G'[o]? = some (.cells false false (w64 (tw (xAQ p (64 * a + (8 * b + 8)))))) ∧ Kt G.length o G G' := by
 intro e
 induction e with
 | zero =>
  intro c hc G hk ho h1 h2 go ga gb
  obtain rfl : c = 8 := by omega
  refine ⟨G,?_,go,.refl _ _ _⟩
  rw [xOi]
  simp (maxSteps := 30000000) (disch := first|exact D1|fail) only [xHS,WB,↓reduceIte,xKG]
 | succ e ih =>
  intro c hc G hk ho h1 h2 go ga gb
  have hlt : (c : Int) < 8 := by omega
  have lo := xA4 go
  have la := xA4 ga
  have lb := xA4 gb
  obtain ⟨G1,e1,k1⟩ := hh (G ++ [.cells false false [.int .i64 (c : Nat)]]) ia ib G.length a b c (hk.trans (Kp.appB _ _ hk.1)) ha hb (by omega) (by rw [xAS la]; exact ga) (by rw [xAS lb]; exact gb) (by rw [xBq rfl]; rfl)
  have len1 := k1.1
  simp only [List.length_append,List.length_cons,List.length_nil] at len1 k1
  have go1 : G1[o]? = some (.cells false false (w64 (tw (xAQ p (64 * a + (8 * b + c)))))) := by rw [k1.2 o (by omega),xAS lo]; exact go
  have ga1 : G1[ia]? = some (.cells false false [.int .i64 (a : Nat)]) := by rw [k1.2 ia (by omega),xAS la]; exact ga
  have gb1 : G1[ib]? = some (.cells false false [.int .i64 (b : Nat)]) := by rw [k1.2 ib (by omega),xAS lb]; exact gb
  have gc1 : G1[G.length]? = some (.cells false false [.int .i64 (c : Nat)]) := by rw [k1.2 G.length (by omega),xBq rfl]; rfl
  have hk1 : Kp G0.length G0 G1 := hk.trans ((Kp.appB G _ hk.1).trans (k1.low (by have := hk.1; omega)))
  have kt1 : Kt G.length o G G1 := (Kp.kt (Kp.app G _)).trans (Kp.kt (k1.low (by omega)))
  cases hp : p (64 * a + (8 * b + c)) with
  | true =>
   rw [hp] at e1
   have hs := xQj go1 ha hb (show c < 8 by omega)
   rw [xW0 hp] at hs
   obtain ⟨G',e2,g2,k2⟩ := ih (c + 1) (by omega) (G1.set o (.cells false false (w64 (tw (xAQ p (64 * a + (8 * b + c) + 1)))))) (hk1.trans (Kp.set ho)) ho h1 h2 (by rw [xEJ (xA4 go1)]; rfl) (by rw [xBH h1]; exact ga1) (by rw [xBH h2]; exact gb1)
   refine ⟨G',?_,g2,kt1.trans (Kt.set.trans (k2.low (by simp; have := kt1.1; omega)))⟩
   rw [xOi]
   simp (maxSteps := 30000000) (disch := first|exact D1|fail) only [xHS,WB,hlt,↓reduceIte,AV.cells,AV.isCell,xBq,xBG,e1,ga1,gb1,gc1,hs,xKG,e2]
  | false =>
   rw [hp] at e1
   obtain ⟨G',e2,g2,k2⟩ := ih (c + 1) (by omega) G1 hk1 ho h1 h2 (by rw [go1,yAj hp]; rfl) ga1 gb1
   refine ⟨G',?_,g2,kt1.trans (k2.low kt1.1)⟩
   rw [xOi]
   simp (maxSteps := 30000000) (disch := first|exact D1|fail) only [xHS,WB,hlt,↓reduceIte,AV.cells,AV.isCell,xBq,xBG,e1,xKG,e2]
theorem yAl (hh : xOA hv G0 p) (ha : a < 8) (s7 : AV) : ∀ e b,b + e = 8 → ∀ G,Kp G0.length G0 G → G0.length ≤ o → o ≠ ia → G[o]? = some (.cells false false (w64 (tw (xAQ p (64 * a + 8 * b))))) →
  G[ia]? = some (.cells false false [.int .i64 (a : Nat)]) →
  ∃ G',L.loop xFM xM5 ⟨xFN hv (.ptr o 0) (.ptr ia 0) s7 (.int .i64 (b : Nat)),G⟩ = some (.exit 2,⟨xFN hv (.ptr o 0) (.ptr ia 0) s7 (.int .i64 8),G'⟩) ∧ G'[o]? = some (.cells false false (w64 (tw (xAQ p (64 * a + 64))))) ∧ Kt G.length o G G' := by
 intro e
 induction e with
 | zero =>
  intro b hb G hk ho h1 go ga
  obtain rfl : b = 8 := by omega
  refine ⟨G,?_,go,.refl _ _ _⟩
  rw [xUa]
  simp (maxSteps := 30000000) (disch := first|exact D1|fail) only [xKH,WB,↓reduceIte,xOj]
 | succ e ih =>
  intro b hb G hk ho h1 go ga
  have hlt : (b : Int) < 8 := by omega
  have lo := xA4 go
  have la := xA4 ga
  obtain ⟨G1,e1,go1,k1⟩ := yAk (o := o) (ia := ia) (ib := G.length) (a := a) (b := b) hh ha (by omega) s7 (.int .i64 (b : Nat)) 8 0 rfl (G ++ [.cells false false [.int .i64 (b : Nat)]]) (hk.trans (Kp.appB _ _ hk.1)) ho h1 (by omega) (by rw [xAS lo]; exact go) (by rw [xAS la]; exact ga) (by rw [xBq rfl]; rfl)
  have len1 := k1.1
  simp only [List.length_append,List.length_cons,List.length_nil] at len1 k1
  have ga1 : G1[ia]? = some (.cells false false [.int .i64 (a : Nat)]) := by rw [k1.2 ia (by omega) (by omega),xAS la]; exact ga
  have hk1 : Kp G0.length G0 G1 := hk.trans ((Kp.appB G _ hk.1).trans ((k1.low (by have := hk.1; omega)).kp ho))
  have kt1 : Kt G.length o G G1 := (Kp.kt (Kp.app G _)).trans (k1.low (by omega))
  obtain ⟨G',e2,g2,k2⟩ := ih (b + 1) (by omega) G1 hk1 ho h1 (by rw [go1]; rfl) ga1
  refine ⟨G',?_,g2,kt1.trans (k2.low kt1.1)⟩
  have e1' : L.loop xFK xM4 ⟨xFL hv (.ptr o 0) (.ptr ia 0) (.ptr G.length 0) s7 (.int .i64 (b : Nat)) (.int .i64 0),G ++ [.cells false false [.int .i64 (b : Nat)]]⟩ = _ := e1
  rw [xUa]
  simp (maxSteps := 30000000) (disch := first|exact D1|fail) only [xKH,WB,hlt,↓reduceIte,AV.cells,AV.isCell,xBq,xBG,xKG,e1',xOj,e2]
theorem yAm (hh : xOA hv G0 p) : ∀ e a,a + e = 8 → ∀ G,Kp G0.length G0 G → G0.length ≤ o → G[o]? = some (.cells false false (w64 (tw (xAQ p (64 * a))))) →
  ∃ G',L.loop xFO xM6 ⟨xFP hv (.ptr o 0) (.int .i64 (a : Nat)),G⟩ = some (.exit 0,⟨xFP hv (.ptr o 0) (.int .i64 8),G'⟩) ∧ G'[o]? = some (.cells false false (w64 (tw p))) ∧ Kt G.length o G G' := by
 intro e
 induction e with
 | zero =>
  intro a ha G hk ho go
  obtain rfl : a = 8 := by omega
  refine ⟨G,?_,by rw [← xQk p]; exact go,.refl _ _ _⟩
  rw [xUb]
  simp (maxSteps := 30000000) (disch := first|exact D1|fail) only [xKI,WB,↓reduceIte,xOk]
 | succ e ih =>
  intro a ha G hk ho go
  have hlt : (a : Int) < 8 := by omega
  have lo := xA4 go
  obtain ⟨G1,e1,go1,k1⟩ := yAl (o := o) (ia := G.length) (a := a) hh (by omega) (.int .i64 (a : Nat)) 8 0 rfl (G ++ [.cells false false [.int .i64 (a : Nat)]]) (hk.trans (Kp.appB _ _ hk.1)) ho (by omega) (by rw [xAS lo]; exact go) (by rw [xBq rfl]; rfl)
  have len1 := k1.1
  simp only [List.length_append,List.length_cons,List.length_nil] at len1 k1
  have hk1 : Kp G0.length G0 G1 := hk.trans ((Kp.appB G _ hk.1).trans ((k1.low (by have := hk.1; omega)).kp ho))
  have kt1 : Kt G.length o G G1 := (Kp.kt (Kp.app G _)).trans (k1.low (by omega))
  obtain ⟨G',e2,g2,k2⟩ := ih (a + 1) (by omega) G1 hk1 ho (by rw [go1,Nat.mul_add])
  refine ⟨G',?_,g2,kt1.trans (k2.low kt1.1)⟩
  have e1' : L.loop xFM xM5 ⟨xFN hv (.ptr o 0) (.ptr G.length 0) (.int .i64 (a : Nat)) (.int .i64 0),G ++ [.cells false false [.int .i64 (a : Nat)]]⟩ = _ := e1
  rw [xUb]
  simp (maxSteps := 30000000) (disch := first|exact D1|fail) only [xKI,WB,hlt,↓reduceIte,AV.cells,AV.isCell,xBq,xBG,xOj,e1',xOk,e2]
theorem xBt (l : List Nat) : (w64 l).all AV.isCell = true := by simp [w64,AV.isCell]
theorem xGy {G : Heap} {o : Nat} {z : Bool} {l l' : List Nat} (h : l.length = l'.length) : wrK G o 0 (w64 l) (some (.cells false z (w64 l'))) = some (G.set o (.cells false z (w64 l))) := by
 rw [xHo (by rw [xAV,xAV]; omega) (xBt l)]
 congr 3
 simp [splice,xAV,h]
def xCb (q : Q) : AV := .agg (w64 (tw q))
theorem xK4 (hh : xOA hv G0 p) : ∃ G',L.icall (.func 104 []) [hv] G0 = some (xCb p,G') ∧ Kp G0.length G0 G' := by
 obtain ⟨G1,e1,go1,k1⟩ := yAm (o := G0.length) hh 8 0 rfl (G0 ++ [.cells false false (w64 (tw (xAQ p 0)))]) (Kp.app _ _) (Nat.le_refl _) (by rw [xBq rfl]; rfl)
 rw [xNj] at e1
 have k2 : Kp G0.length G0 G1 := (Kp.app G0 _).trans ((k1.low (by simp)).kp (Nat.le_refl _))
 have e1' : L.loop xFO xM6 ⟨xFP hv (.ptr G0.length 0) (.int .i64 0),G0 ++ [.cells false false [.int .u64 0,.int .u64 0,.int .u64 0,.int .u64 0,.int .u64 0,.int .u64 0,.int .u64 0,.int .u64 0]]⟩ = _ := e1
 have hl := xAd p
 have hlen : (w64 (tw p)).length = 8 := by rw [xAV,hl]
 have hset : (G1.set G0.length (.cells false false (w64 (tw p)))) = G1 := by
  apply List.ext_getElem?
  intro i
  by_cases e : G0.length = i
  ·subst e; rw [xEJ (xA4 go1),go1]
  ·rw [xBH e]
 have htake : List.take 8 (tw p) = tw p := List.take_of_length_le (by omega)
 have hdrop : List.drop 8 (tw p) = [] := List.drop_of_length_le (by omega)
 refine ⟨G1,?_,k2⟩
 unfold xCb
 rw [yD4,yDP,xAu]
 have hw := xGy (G := G1) (o := G0.length) (z := false) (l := tw p) (l' := tw p) rfl
 rw [hset] at hw
 simp (disch := omega) only [WB,Nat.reduceSub,AV.cells,AV.isCell,↓reduceIte,xOk,e1',go1,xAJ,htake,W2,hl,hw]
end
def wrd (q : Q) (a : Nat) : Nat := wdN (fun k => q (64 * a + k)) 64
theorem xH8 (q : Q) (a : Nat) : wrd q a < 18446744073709551616 := xUR _ 64
theorem xFo (q : Q) {a : Nat} (h : a < 8) : (tw q).getD a 0 = wrd q a := xRd q h
def xOB (r q : Q) (i : Nat) : Q := fun s => if s < 64 * i then r s else q s
theorem xUT (r q : Q) : tw (xOB r q 0) = tw q := xDU fun j _ => by simp [xOB]
theorem xW1 (r q : Q) : tw (xOB r q 8) = tw r := xDU fun j h => by simp [xOB]; intro h'; omega
theorem yAn (r q : Q) {i : Nat} (h : i < 8) : (tw (xOB r q i)).getD i 0 = wrd q i := by
 rw [xFo _ h]
 refine xDT fun k hk => ?_
 unfold xOB
 rw [if_neg (by omega)]
theorem xW2 (r q : Q) {i : Nat} (h : i < 8) : (tw (xOB r q i)).set i (wrd r i) = tw (xOB r q (i + 1)) := by
 refine xH7 (by simp [xAd]) (xAd _) fun a ha => ?_
 rw [xFo _ ha]
 by_cases e : a = i
 ·subst e
  have : ((tw (xOB r q a)).set a (wrd r a)).getD a 0 = wrd r a := by
   rw [List.getD_eq_getElem?_getD,List.getElem?_set_self (by rw [xAd]; omega)]; rfl
  rw [this]
  refine xDT fun k hk => ?_
  unfold xOB
  rw [if_pos (by omega)]
 ·have : ((tw (xOB r q i)).set i (wrd r i)).getD a 0 = (tw (xOB r q i)).getD a 0 := by
   rw [List.getD_eq_getElem?_getD,List.getElem?_set_ne (fun h => e h.symm),← List.getD_eq_getElem?_getD]
  rw [this,xFo _ ha]
  refine xDT fun k hk => ?_
  unfold xOB
  by_cases c : 64 * a + k < 64 * i
  ·rw [if_pos c,if_pos (by omega)]
  ·rw [if_neg c,if_neg (by omega)]
def WOp (f : Nat) (p q r : Q) : Prop := ∀ (G : Heap) a,a < 8 → L.icall (.func f []) [.int .u64 (wrd p a : Nat),.int .u64 (wrd q a : Nat)] G = some (.int .u64 (wrd r a : Nat),G)
theorem yEC (p q : Q) : WOp 123 p q (fun s => p s && q s) := by
 intro G a _
 have e : wrd p a &&& wrd q a = wrd (fun s => p s && q s) a := yAg _ _ _
 have hx := yAw (xH8 p a) (xH8 q a)
 rw [e] at hx
 rw [yEf,yDX,xAu]
 simp (disch := omega) only [WB,Nat.reduceAdd,Nat.reduceSub,hx]
theorem yED (p q : Q) : WOp 124 p q (fun s => p s || q s) := by
 intro G a _
 have e : wrd p a ||| wrd q a = wrd (fun s => p s || q s) a := yCF _ _ _
 have hx := yDm (xH8 p a) (xH8 q a)
 rw [e] at hx
 rw [yEg,a124,xAu]
 simp (disch := omega) only [WB,Nat.reduceAdd,Nat.reduceSub,hx]
theorem yEE {a : Nat} (h : a < 18446744073709551616) : xDq .xor .u64 (if IntKind.u64.signed = true then -1 else IntKind.u64.max) (a : Int) = ((18446744073709551615 ^^^ a : Nat) : Int) := by
 have e1 : (if IntKind.u64.signed = true then (-1 : Int) else IntKind.u64.max) = ((18446744073709551615 : Nat) : Int) := by decide
 rw [e1]
 unfold xDq
 show IntKind.u64.wrap (((BitVec.ofInt 64 ((18446744073709551615 : Nat) : Int) ^^^ BitVec.ofInt 64 (a : Int)).toNat : Nat) : Int) = _
 rw [BitVec.toNat_xor,xJ9 (by decide),xJ9 h]
 exact xRe (Nat.xor_lt_two_pow (n := 64) (by decide) h)
theorem yAo (q : Q) (a : Nat) : 18446744073709551615 ^^^ wrd q a = wrd (fun s => !q s) a := by
 refine Nat.eq_of_testBit_eq fun j => ?_
 have h1 : (18446744073709551615 : Nat).testBit j = decide (j < 64) := by
  rw [show (18446744073709551615 : Nat) = 2 ^ 64 - 1 from rfl,Nat.testBit_two_pow_sub_one]
 unfold wrd
 rw [Nat.testBit_xor,h1,xBe,xBe]
 cases decide (j < 64) <;> simp
theorem yEF (p q : Q) : WOp 109 p q (fun s => !p s) := by
 intro G a _
 have hx := yEE (xH8 p a)
 rw [yAo] at hx
 rw [yD8,yDS,xAu]
 simp (disch := omega) only [WB,Nat.reduceAdd,Nat.reduceSub,Int.reduceNeg,hx]
section
variable {f o u : Nat} {p q r : Q} {t6 : AV}
theorem D2 {p : Prop} (h : p := by first | assumption | omega | (simp only [WL,AV.isCell,xAd] <;> omega) | rfl | decide) : p := h
theorem yCI (hw : WOp f p q r) : ∀ e i,i + e = 8 → ∀ G : Heap,G[o]? = some (.cells false false (w64 (tw (xOB r p i)))) → G[u]? = some (.cells false false (w64 (tw q))) → o ≠ u →
  ∃ G',L.loop xFR xM8 ⟨xFS (.func f []) (.ptr o 0) (.ptr u 0) t6 (.int .i64 (i : Nat)),G⟩ = some (.exit 0,⟨xFS (.func f []) (.ptr o 0) (.ptr u 0) t6 (.int .i64 8),G'⟩) ∧ G'[o]? = some (.cells false false (w64 (tw r))) ∧ G'.length = G.length ∧ ∀ b,b ≠ o → G'[b]? = G[b]? := by
 intro e
 induction e with
 | zero =>
  intro i hi G go gu hou
  obtain rfl : i = 8 := by omega
  refine ⟨G,?_,by rw [← xW1 r p]; exact go,rfl,fun _ _ => rfl⟩
  rw [xUc]
  simp (maxSteps := 30000000) (disch := first|exact D2|fail) only [xKJ,WB,↓reduceIte,xOm]
 | succ e ih =>
  intro i hi G go gu hou
  have hlt : (i : Int) < 8 := by omega
  have h8 : i < 8 := by omega
  have hx := hw G i h8
  have h1 := yAn r p h8
  have h2 := xFo q h8
  have h3 := xW2 r p h8
  obtain ⟨G',e2,g2,g3,g4⟩ := ih (i + 1) (by omega) (G.set o (.cells false false (w64 (tw (xOB r p (i + 1)))))) (by rw [xEJ (xA4 go)]) (by rw [xBH hou]; exact gu) hou
  refine ⟨G',?_,g2,by rw [g3]; simp,fun b hb => by rw [g4 b hb,xBH (fun h => hb h.symm)]⟩
  rw [xUc]
  simp (maxSteps := 30000000) (disch := first|exact D2|fail) only [xKJ,WB,hlt,↓reduceIte,WA,go,xDg,xAJ,xF6,h1,xAn,gu,h2,hx,AV.cells,W2,h3,xOm,e2]
theorem xOC (hw : WOp f p q r) (G : Heap) : ∃ G',L.icall (.func 108 []) [xCb p,xCb q,.func f []] G = some (xCb r,G') ∧ Kp G.length G G' := by
 obtain ⟨G1,e1,go,gl,gk⟩ := yCI (o := G.length) (u := G.length + 1) (t6 := .ptr (G.length + 2) 0) hw 8 0 rfl (G ++ [.cells false false (w64 (tw p)),.cells false false (w64 (tw q)),.cells false false [.int .u64 0,.int .u64 0,.int .u64 0,.int .u64 0,.int .u64 0,.int .u64 0,.int .u64 0,.int .u64 0]]) (by rw [xBq rfl,xUT]; rfl) (by rw [xH6 rfl]; rfl) (by omega)
 have e1' : L.loop xFR xM8 ⟨xFS (.func f []) (.ptr G.length 0) (.ptr (G.length + 1) 0) (.ptr (G.length + 2) 0) (.int .i64 0),G ++ [.cells false false (w64 (tw p)),.cells false false (w64 (tw q)),.cells false false [.int .u64 0,.int .u64 0,.int .u64 0,.int .u64 0,.int .u64 0,.int .u64 0,.int .u64 0,.int .u64 0]]⟩ = _ := e1
 have g6 : G1[G.length + 2]? = some (.cells false false (w64 (List.replicate 8 0))) := by rw [gk _ (by omega),xH6 rfl]; rfl
 have hl := xAd r
 have htake : List.take 8 (tw r) = tw r := List.take_of_length_le (by omega)
 have hdrop : List.drop 8 (tw r) = [] := List.drop_of_length_le (by omega)
 have hw2 := xGy (G := G1) (o := G.length + 2) (z := false) (l := tw r) (l' := List.replicate 8 0) (by simp [xAd])
 have gq : (G1.set (G.length + 2) (.cells false false (w64 (tw r))))[G.length + 2]? = some (.cells false false (w64 (tw r))) := xEJ (by rw [gl]; simp)
 refine ⟨G1.set (G.length + 2) (.cells false false (w64 (tw r))),?_,?_⟩
 ·have hc1 := xBt (tw p)
  have hc2 := xBt (tw q)
  unfold xCb
  rw [yD7,yDR,xAu]
  simp (maxSteps := 30000000) (disch := first|exact D2|fail) only [WB,Nat.reduceAdd,Nat.reduceSub,AV.cells,hc1,↓reduceIte,hc2,AV.isCell,xOm,e1',go,xAJ,htake,W2,hl,g6,hw2,gq]
 ·refine ⟨by simp [gl],fun b hb => ?_⟩
  rw [xBH (by omega),gk b (by omega),xAS hb]
end
theorem xYf (p q : Q) : L.pcall 110 [xCb p,xCb q] = some (xCb fun s => p s && q s) := by
 obtain ⟨G',e,k⟩ := xOC (yEC p q) [.cells false false (w64 (tw p)),.cells false false (w64 (tw q)),.cells false false [.int .u64 0,.int .u64 0,.int .u64 0,.int .u64 0,.int .u64 0,.int .u64 0,.int .u64 0,.int .u64 0]]
 have g : G'[2]? = some (.cells false false (w64 (List.replicate 8 0))) := by rw [k.2 2 (by simp)]; rfl
 unfold xCb at e ⊢
 have hw2 := xGy (G := G') (o := 2) (z := false) (l := tw fun s => p s && q s) (l' := List.replicate 8 0) (by simp [xAd])
 have gq : (G'.set 2 (.cells false false (w64 (tw fun s => p s && q s))))[2]? = some (.cells false false (w64 (tw fun s => p s && q s))) := xEJ (xA4 g)
 have htake : List.take 8 (tw fun s => p s && q s) = tw fun s => p s && q s := List.take_of_length_le (by rw [xAd]; omega)
 have htp : List.take 8 (tw p) = tw p := List.take_of_length_le (by rw [xAd]; omega)
 have htq : List.take 8 (tw q) = tw q := List.take_of_length_le (by rw [xAd]; omega)
 have hc1 := xBt (tw p)
 have hc2 := xBt (tw q)
 rw [yD9,yDT,xAa]
 simp (maxSteps := 30000000) (disch := first|exact D2|fail) only [WB,Nat.reduceAdd,Nat.reduceSub,AV.cells,hc1,↓reduceIte,hc2,AV.isCell,xAJ,htp,htq,e,W2,xAd,g,hw2,gq,htake]
theorem yAp (p q : Q) : L.pcall 111 [xCb p,xCb q] = some (xCb fun s => p s || q s) := by
 obtain ⟨G',e,k⟩ := xOC (yED p q) [.cells false false (w64 (tw p)),.cells false false (w64 (tw q)),.cells false false [.int .u64 0,.int .u64 0,.int .u64 0,.int .u64 0,.int .u64 0,.int .u64 0,.int .u64 0,.int .u64 0]]
 have g : G'[2]? = some (.cells false false (w64 (List.replicate 8 0))) := by rw [k.2 2 (by simp)]; rfl
 unfold xCb at e ⊢
 have hw2 := xGy (G := G') (o := 2) (z := false) (l := tw fun s => p s || q s) (l' := List.replicate 8 0) (by simp [xAd])
 have gq : (G'.set 2 (.cells false false (w64 (tw fun s => p s || q s))))[2]? = some (.cells false false (w64 (tw fun s => p s || q s))) := xEJ (xA4 g)
 have htake : List.take 8 (tw fun s => p s || q s) = tw fun s => p s || q s := List.take_of_length_le (by rw [xAd]; omega)
 have htp : List.take 8 (tw p) = tw p := List.take_of_length_le (by rw [xAd]; omega)
 have htq : List.take 8 (tw q) = tw q := List.take_of_length_le (by rw [xAd]; omega)
 have hc1 := xBt (tw p)
 have hc2 := xBt (tw q)
 rw [yEa,yDU,xAa]
 simp (maxSteps := 30000000) (disch := first|exact D2|fail) only [WB,Nat.reduceAdd,Nat.reduceSub,AV.cells,hc1,↓reduceIte,hc2,AV.isCell,xAJ,htp,htq,e,W2,xAd,g,hw2,gq,htake]
def kx (x j : Nat) : Nat := if x = 8 then j % 64 else if x = 9 then j / 64 * 8 + j % 8 else j / 8
def dg (x j : Nat) : Nat := if x = 8 then j / 64 else if x = 9 then j / 8 % 8 else j % 8
theorem yCJ {x j : Nat} (h : j < 512) : dg x j < 8 := by
 unfold dg
 by_cases h1 : x = 8
 ·rw [if_pos h1]; omega
 ·rw [if_neg h1]
  by_cases h2 : x = 9
  ·rw [if_pos h2]; omega
  ·rw [if_neg h2]; omega
def vQ (x : Nat) (q0 : Q) (s v : Nat) : Q := fun j => q0 j || (kx x j == kx x s && decide (dg x j < v))
theorem yAq (x : Nat) (q0 : Q) (s : Nat) : tw (vQ x q0 s 0) = tw q0 := xDU fun j _ => by simp [vQ]
theorem xUU {x : Nat} (q0 : Q) {s v w : Nat} (h : ∀ j,j < 512 → (j = w ↔ kx x j = kx x s ∧ dg x j = v)) : tw (fun j => vQ x q0 s v j || j == w) = tw (vQ x q0 s (v + 1)) := by
 refine xDU fun j hj => ?_
 have := h j hj
 unfold vQ
 rw [Bool.eq_iff_iff]
 simp only [Bool.or_eq_true,Bool.and_eq_true,beq_iff_eq,decide_eq_true_eq]
 constructor
 ·rintro ((h1 | ⟨h1,h2⟩) | h1)
  ·exact .inl h1
  ·exact .inr ⟨h1,by omega⟩
  ·have := this.1 h1; exact .inr ⟨this.1,by omega⟩
 ·rintro (h1 | ⟨h1,h2⟩)
  ·exact .inl (.inl h1)
  ·by_cases e : dg x j = v
   ·exact .inr (this.2 ⟨h1,e⟩)
   ·exact .inl (.inr ⟨h1,by omega⟩)
def oQ (x : Nat) (p : Q) (n : Nat) : Q := fun j => (List.range n).any fun s => p s && kx x j == kx x s
theorem yCK {x : Nat} {p : Q} {n : Nat} (h : p n = true) : tw (vQ x (oQ x p n) n 8) = tw (oQ x p (n + 1)) := by
 refine xDU fun j hj => ?_
 unfold vQ oQ
 have := yCJ (x := x) hj
 rw [List.range_succ,List.any_append]
 simp [h,this]
theorem yEG {x : Nat} {p : Q} {n : Nat} (h : p n = false) : tw (oQ x p n) = tw (oQ x p (n + 1)) := by
 refine xDU fun j hj => ?_
 unfold oQ
 rw [List.range_succ,List.any_append]
 simp [h]
theorem yAr (x : Nat) (p : Q) : tw (oQ x p 0) = List.replicate 8 0 := by
 have : tw (oQ x p 0) = tw (fun _ => false) := xDU fun j _ => by simp [oQ]
 rw [this]
 unfold tw
 simp only [xGN]
 rfl
def exQ (x : Nat) (p : Q) : Q := oQ x p 512
theorem yCL (p : Q) {a k : Nat} (hk : k < 64) : xDq .and .u64 (((wrd p a : Nat) : Int).fdiv (2 ^ k)) 1 = ((p (64 * a + k)).toNat : Nat) := by
 have e1 : ((wrd p a : Nat) : Int).fdiv (2 ^ k) = ((wrd p a / 2 ^ k : Nat) : Int) := by
  have : ((2 : Int) ^ k) = ((2 ^ k : Nat) : Int) := by simp
  rw [this,Int.fdiv_eq_ediv_of_nonneg _ (Int.natCast_nonneg _)]
  exact (Int.natCast_ediv _ _).symm
 have h2 : wrd p a / 2 ^ k < 18446744073709551616 := Nat.lt_of_le_of_lt (Nat.div_le_self _ _) (xH8 p a)
 rw [e1,show (1 : Int) = ((1 : Nat) : Int) from rfl,yAw h2 (by decide)]
 congr 1
 have := xBe (fun k => p (64 * a + k)) 64 k
 rw [Nat.testBit,Nat.shiftRight_eq_div_pow] at this
 rw [Nat.and_comm]
 simp only [hk,decide_true,Bool.true_and] at this
 rw [← this]
 have hb : 1 &&& (wrd p a / 2 ^ k) = (wrd p a / 2 ^ k) % 2 := by rw [Nat.and_comm,Nat.and_one_is_mod]
 show 1 &&& (wrd p a / 2 ^ k) = (1 &&& (wrd p a / 2 ^ k) != 0).toNat
 rw [hb]
 rcases Nat.mod_two_eq_zero_or_one (wrd p a / 2 ^ k) with e | e <;> rw [e] <;> rfl
section
variable {o ti a b c x : Nat} {p q0 : Q} {s10 s13 s16 : AV}
theorem yCM (hx : x = 8 ∨ x = 9 ∨ x = 10) (ha : a < 8) (hb : b < 8) (hc : c < 8) : ∀ e v,v + e = 8 → ∀ G : Heap,G[o]? = some (.cells false false (w64 (tw (vQ x q0 (64 * a + (8 * b + c)) v)))) →
  ∃ G',L.loop xFU xM9 ⟨xFV (.int .i64 (x : Nat)) (.ptr ti 0) (.ptr o 0) (.int .i64 (a : Nat)) (.int .i64 (b : Nat)) (.int .i64 (c : Nat)) s10 s13 s16 (.int .i64 (v : Nat)),G⟩ =
   some (.exit 6,⟨xFV (.int .i64 (x : Nat)) (.ptr ti 0) (.ptr o 0) (.int .i64 (a : Nat)) (.int .i64 (b : Nat)) (.int .i64 (c : Nat)) s10 s13 s16 (.int .i64 8),G'⟩) ∧ G'[o]? = some (.cells false false (w64 (tw (vQ x q0 (64 * a + (8 * b + c)) 8)))) ∧ Kt G.length o G G' := by
 intro e
 induction e with
 | zero =>
  intro v hv G go
  obtain rfl : v = 8 := by omega
  refine ⟨G,?_,go,.refl _ _ _⟩
  rw [xKK]
  simp (maxSteps := 30000000) (disch := first|exact D2|fail) only [xFT,WB,↓reduceIte,xHV]
 | succ e ih =>
  intro v hv G go
  have hlt : (v : Int) < 8 := by omega
  have lo := xA4 go
  rcases hx with rfl | rfl | rfl
  ·have go1 : (G ++ [.cells false false [.int .i64 (v : Nat),.int .i64 (b : Nat),.int .i64 (c : Nat)]])[o]? = some (.cells false false (w64 (tw (vQ 8 q0 (64 * a + (8 * b + c)) v)))) := by rw [xAS lo]; exact go
   have hs := xQj go1 (show v < 8 by omega) hb hc
   rw [xUU (w := 64 * v + (8 * b + c)) q0 (fun j hj => by simp only [kx,dg]; simp; omega),xDp lo] at hs
   obtain ⟨G',e2,g2,k2⟩ := ih (v + 1) (by omega) (G.set o (.cells false false (w64 (tw (vQ 8 q0 (64 * a + (8 * b + c)) (v + 1))))) ++ [.cells false false [.int .i64 (v : Nat),.int .i64 (b : Nat),.int .i64 (c : Nat)]]) (by rw [xAS (by simpa using lo),xEJ lo])
   refine ⟨G',?_,g2,(Kt.set.trans (Kp.kt (Kp.appB _ _ (by simp)))).trans (k2.low (by simp))⟩
   simp only [xHZ] at e2 ⊢
   rw [xKK]
   simp (maxSteps := 30000000) (disch := first|exact D2|fail) only [xFT,WB,hlt,↓reduceIte,AV.cells,Nat.reduceAdd,Nat.reduceLeDiff,AV.isCell,xBq,xBG,Int.reduceSub,WA,Int.reduceToNat,hs,xHV,e2]
  ·have go1 : (G ++ [.cells false false [.int .i64 (a : Nat),.int .i64 (v : Nat),.int .i64 (c : Nat)]])[o]? = some (.cells false false (w64 (tw (vQ 9 q0 (64 * a + (8 * b + c)) v)))) := by rw [xAS lo]; exact go
   have hs := xQj go1 ha (show v < 8 by omega) hc
   rw [xUU (w := 64 * a + (8 * v + c)) q0 (fun j hj => by simp only [kx,dg]; simp; omega),xDp lo] at hs
   obtain ⟨G',e2,g2,k2⟩ := ih (v + 1) (by omega) (G.set o (.cells false false (w64 (tw (vQ 9 q0 (64 * a + (8 * b + c)) (v + 1))))) ++ [.cells false false [.int .i64 (a : Nat),.int .i64 (v : Nat),.int .i64 (c : Nat)]]) (by rw [xAS (by simpa using lo),xEJ lo])
   refine ⟨G',?_,g2,(Kt.set.trans (Kp.kt (Kp.appB _ _ (by simp)))).trans (k2.low (by simp))⟩
   simp only [xHZ] at e2 ⊢
   rw [xKK]
   simp (maxSteps := 30000000) (disch := first|exact D2|fail) only [xFT,WB,hlt,↓reduceIte,AV.cells,Nat.reduceAdd,Nat.reduceLeDiff,AV.isCell,xBq,xBG,Int.reduceSub,WA,Int.reduceToNat,hs,xHV,e2]
  ·have go1 : (G ++ [.cells false false [.int .i64 (a : Nat),.int .i64 (b : Nat),.int .i64 (v : Nat)]])[o]? = some (.cells false false (w64 (tw (vQ 10 q0 (64 * a + (8 * b + c)) v)))) := by rw [xAS lo]; exact go
   have hs := xQj go1 ha hb (show v < 8 by omega)
   rw [xUU (w := 64 * a + (8 * b + v)) q0 (fun j hj => by simp only [kx,dg]; simp; omega),xDp lo] at hs
   obtain ⟨G',e2,g2,k2⟩ := ih (v + 1) (by omega) (G.set o (.cells false false (w64 (tw (vQ 10 q0 (64 * a + (8 * b + c)) (v + 1))))) ++ [.cells false false [.int .i64 (a : Nat),.int .i64 (b : Nat),.int .i64 (v : Nat)]]) (by rw [xAS (by simpa using lo),xEJ lo])
   refine ⟨G',?_,g2,(Kt.set.trans (Kp.kt (Kp.appB _ _ (by simp)))).trans (k2.low (by simp))⟩
   simp only [xHZ] at e2 ⊢
   rw [xKK]
   simp (maxSteps := 30000000) (disch := first|exact D2|fail) only [xFT,WB,hlt,↓reduceIte,AV.cells,Nat.reduceAdd,Nat.reduceLeDiff,AV.isCell,xBq,xBG,Int.reduceSub,WA,Int.reduceToNat,hs,xHV,e2]
end
section
variable {o ti a b c x : Nat} {p : Q} {s10 s13 s16 : AV}
theorem yCN (hx : x = 8 ∨ x = 9 ∨ x = 10) (ha : a < 8) (hb : b < 8) (hto : ti ≠ o) : ∀ e c,c + e = 8 → ∀ G : Heap,G[o]? = some (.cells false false (w64 (tw (oQ x p (64 * a + (8 * b + c)))))) → G[ti]? = some (.cells false false (w64 (tw p))) →
  ∃ G',L.loop xFW xNa ⟨xFX (.int .i64 (x : Nat)) (.ptr ti 0) (.ptr o 0) (.int .i64 (a : Nat)) (.int .i64 (b : Nat)) s10 s13 (.int .i64 (c : Nat)),G⟩ =
   some (.exit 4,⟨xFX (.int .i64 (x : Nat)) (.ptr ti 0) (.ptr o 0) (.int .i64 (a : Nat)) (.int .i64 (b : Nat)) s10 s13 (.int .i64 8),G'⟩) ∧ G'[o]? = some (.cells false false (w64 (tw (oQ x p (64 * a + (8 * b + 8)))))) ∧ Kt G.length o G G' := by
 intro e
 induction e with
 | zero =>
  intro c hc G go gt
  obtain rfl : c = 8 := by omega
  refine ⟨G,?_,go,.refl _ _ _⟩
  rw [xOn]
  simp (maxSteps := 30000000) (disch := first|exact D2|fail) only [xHW,WB,↓reduceIte,xKL]
 | succ e ih =>
  intro c hc G go gt
  have hlt : (c : Int) < 8 := by omega
  have lo := xA4 go
  have lt := xA4 gt
  have hbit := yCL p (a := a) (show 8 * b + c < 64 by omega)
  rw [← show (8 * (b : Int) + (c : Int)).toNat = 8 * b + c by omega] at hbit
  have hw := xFo p ha
  have hmin : min (8 * (b : Int) + (c : Int)).toNat IntKind.u64.bits = (8 * (b : Int) + (c : Int)).toNat := Nat.min_eq_left (by show _ ≤ 64; omega)
  rw [show (8 * (b : Int) + (c : Int)).toNat = 8 * b + c by omega] at hbit
  cases hp : p (64 * a + (8 * b + c)) with
  | false =>
   rw [hp,← show (8 * (b : Int) + (c : Int)).toNat = 8 * b + c by omega] at hbit
   obtain ⟨G',e2,g2,k2⟩ := ih (c + 1) (by omega) G (by rw [go,yEG hp]; rfl) gt
   refine ⟨G',?_,g2,k2⟩
   have hbit' : xDq .and .u64 (((wrd p a : Nat) : Int).fdiv (2 ^ (8 * (b : Int) + (c : Int)).toNat)) 1 = 0 := hbit
   rw [← hmin] at hbit'
   rw [xOn]
   simp (maxSteps := 30000000) (disch := first|exact D2|fail) only [xHW,WB,hlt,↓reduceIte,WA,gt,xDg,xAJ,xF6,hw,hbit',xKL,e2]
  | true =>
   rw [hp,← show (8 * (b : Int) + (c : Int)).toNat = 8 * b + c by omega] at hbit
   have hbit' : xDq .and .u64 (((wrd p a : Nat) : Int).fdiv (2 ^ (8 * (b : Int) + (c : Int)).toNat)) 1 = 1 := hbit
   rw [← hmin] at hbit'
   obtain ⟨G1,e1,g1,k1⟩ := yCM (o := o) (ti := ti) (q0 := oQ x p (64 * a + (8 * b + c))) (s10 := s10) (s13 := s13) (s16 := .int .i64 (c : Nat)) hx ha hb (show c < 8 by omega) 8 0 rfl G (by rw [go,yAq])
   rw [yCK hp] at g1
   obtain ⟨G',e2,g2,k2⟩ := ih (c + 1) (by omega) G1 (by rw [g1]; rfl) (by rw [k1.2 ti lt hto]; exact gt)
   refine ⟨G',?_,g2,k1.trans (k2.low k1.1)⟩
   have e1' : L.loop xFU xM9 ⟨xFV (.int .i64 (x : Nat)) (.ptr ti 0) (.ptr o 0) (.int .i64 (a : Nat)) (.int .i64 (b : Nat)) (.int .i64 (c : Nat)) s10 s13 (.int .i64 (c : Nat)) (.int .i64 0),G⟩ = _ := e1
   rw [xOn]
   simp (maxSteps := 30000000) (disch := first|exact D2|fail) only [xHW,WB,hlt,↓reduceIte,WA,gt,xDg,xAJ,xF6,hw,hbit',Int.reduceEq,xHV,e1',xKL,e2]
theorem yCO (hx : x = 8 ∨ x = 9 ∨ x = 10) (ha : a < 8) (hto : ti ≠ o) : ∀ e b,b + e = 8 → ∀ G : Heap,G[o]? = some (.cells false false (w64 (tw (oQ x p (64 * a + 8 * b))))) → G[ti]? = some (.cells false false (w64 (tw p))) →
  ∃ G',L.loop xFY xNb ⟨xFZ (.int .i64 (x : Nat)) (.ptr ti 0) (.ptr o 0) (.int .i64 (a : Nat)) s10 (.int .i64 (b : Nat)),G⟩ =
   some (.exit 2,⟨xFZ (.int .i64 (x : Nat)) (.ptr ti 0) (.ptr o 0) (.int .i64 (a : Nat)) s10 (.int .i64 8),G'⟩) ∧ G'[o]? = some (.cells false false (w64 (tw (oQ x p (64 * a + 64))))) ∧ Kt G.length o G G' := by
 intro e
 induction e with
 | zero =>
  intro b hb G go gt
  obtain rfl : b = 8 := by omega
  refine ⟨G,?_,go,.refl _ _ _⟩
  rw [xUd]
  simp (disch := omega) only [xKM,WB,↓reduceIte,xOo]
 | succ e ih =>
  intro b hb G go gt
  have hlt : (b : Int) < 8 := by omega
  obtain ⟨G1,e1,g1,k1⟩ := yCN (o := o) (ti := ti) (a := a) (b := b) (p := p) (s10 := s10) (s13 := .int .i64 (b : Nat)) hx ha (by omega) hto 8 0 rfl G go gt
  obtain ⟨G',e2,g2,k2⟩ := ih (b + 1) (by omega) G1 (by rw [g1]; rfl) (by rw [k1.2 ti (xA4 gt) hto]; exact gt)
  refine ⟨G',?_,g2,k1.trans (k2.low k1.1)⟩
  have e1' : L.loop xFW xNa ⟨xFX (.int .i64 (x : Nat)) (.ptr ti 0) (.ptr o 0) (.int .i64 (a : Nat)) (.int .i64 (b : Nat)) s10 (.int .i64 (b : Nat)) (.int .i64 0),G⟩ = _ := e1
  rw [xUd]
  simp (disch := omega) only [xKM,WB,hlt,↓reduceIte,xKL,e1',xOo,e2]
theorem yCP (hx : x = 8 ∨ x = 9 ∨ x = 10) (hto : ti ≠ o) : ∀ e a,a + e = 8 → ∀ G : Heap,G[o]? = some (.cells false false (w64 (tw (oQ x p (64 * a))))) → G[ti]? = some (.cells false false (w64 (tw p))) →
  ∃ G',L.loop xF0 xNc ⟨xF1 (.int .i64 (x : Nat)) (.ptr ti 0) (.ptr o 0) (.int .i64 (a : Nat)),G⟩ =
   some (.exit 0,⟨xF1 (.int .i64 (x : Nat)) (.ptr ti 0) (.ptr o 0) (.int .i64 8),G'⟩) ∧ G'[o]? = some (.cells false false (w64 (tw (exQ x p)))) ∧ Kt G.length o G G' := by
 intro e
 induction e with
 | zero =>
  intro a ha G go gt
  obtain rfl : a = 8 := by omega
  refine ⟨G,?_,go,.refl _ _ _⟩
  rw [xUe]
  simp (disch := omega) only [xKN,WB,↓reduceIte,xOp]
 | succ e ih =>
  intro a ha G go gt
  have hlt : (a : Int) < 8 := by omega
  obtain ⟨G1,e1,g1,k1⟩ := yCO (o := o) (ti := ti) (a := a) (p := p) (s10 := .int .i64 (a : Nat)) hx (by omega) hto 8 0 rfl G go gt
  obtain ⟨G',e2,g2,k2⟩ := ih (a + 1) (by omega) G1 (by rw [g1,Nat.mul_add]) (by rw [k1.2 ti (xA4 gt) hto]; exact gt)
  refine ⟨G',?_,g2,k1.trans (k2.low k1.1)⟩
  have e1' : L.loop xFY xNb ⟨xFZ (.int .i64 (x : Nat)) (.ptr ti 0) (.ptr o 0) (.int .i64 (a : Nat)) (.int .i64 (a : Nat)) (.int .i64 0),G⟩ = _ := e1
  rw [xUe]
  simp (disch := omega) only [xKN,WB,hlt,↓reduceIte,xOo,e1',xOp,e2]
theorem yAs (hx : x = 8 ∨ x = 9 ∨ x = 10) : L.pcall 112 [xCb p,.int .i64 (x : Nat)] = some (xCb (exQ x p)) := by
 obtain ⟨G1,e1,g1,k1⟩ := yCP (o := 1) (ti := 0) (p := p) hx (by decide) 8 0 rfl [.cells false false (w64 (tw p)),.cells false false (w64 (List.replicate 8 0))] (by rw [yAr]; rfl) rfl
 have e1' : L.loop xF0 xNc ⟨xF1 (.int .i64 (x : Nat)) (.ptr 0 0) (.ptr 1 0) (.int .i64 0),[.cells false false (w64 (tw p)),.cells false false [.int .u64 0,.int .u64 0,.int .u64 0,.int .u64 0,.int .u64 0,.int .u64 0,.int .u64 0,.int .u64 0]]⟩ = _ := e1
 have hset : G1.set 1 (.cells false false (w64 (tw (exQ x p)))) = G1 := by
  apply List.ext_getElem?
  intro i
  by_cases e : 1 = i
  ·subst e; rw [xEJ (xA4 g1),g1]
  ·rw [xBH e]
 have hw2 := xGy (G := G1) (o := 1) (z := false) (l := tw (exQ x p)) (l' := tw (exQ x p)) rfl
 rw [hset] at hw2
 have htake : List.take 8 (tw (exQ x p)) = tw (exQ x p) := List.take_of_length_le (by rw [xAd]; omega)
 have hc1 := xBt (tw p)
 unfold xCb
 rw [yEb,yDV,xAa]
 simp (maxSteps := 30000000) (disch := first|exact D2|fail) only [WB,Nat.reduceAdd,Nat.reduceSub,AV.cells,hc1,↓reduceIte,AV.isCell,xOp,e1',g1,xAJ,htake,W2,xAd,hw2]
end
def byQ (q : Q) (i : Nat) : Nat := wdN (fun k => q (8 * i + k)) 8
def bsQ (q : Q) : List Nat := (List.range 64).map (byQ q)
def qOf (l : List Nat) : Q := fun j => (l.getD (j / 8) 0).testBit (j % 8)
theorem yCQ (q : Q) (i : Nat) : byQ q i < 256 := xUR _ 8
theorem xF5 (q : Q) : (bsQ q).length = 64 := by simp [bsQ]
theorem xYg (q : Q) {i : Nat} (h : i < 64) : (bsQ q).getD i 0 = byQ q i := by
 unfold bsQ
 rw [List.getD_eq_getElem?_getD,List.getElem?_map,List.getElem?_range h]; rfl
theorem yAt (q : Q) : ∀ j,j < 512 → qOf (bsQ q) j = q j := by
 intro j hj
 unfold qOf
 rw [xYg q (by omega)]
 unfold byQ
 rw [xBe]
 have : 8 * (j / 8) + j % 8 = j := by omega
 simp [this]; omega
theorem yAu {p q : Q} (h : ∀ j,j < 512 → p j = q j) : bsQ p = bsQ q := by
 unfold bsQ
 refine List.map_congr_left fun i hi => ?_
 rw [List.mem_range] at hi
 exact xDT fun k hk => h _ (by omega)
theorem xUV {l : List Nat} (hb : ∀ x ∈ l,x < 256) {i : Nat} (hi : i < l.length) (h64 : i < 64) : wrd (xAQ (qOf l) (8 * i)) (i / 8) ||| (l.getD i 0 * 2 ^ (8 * (i % 8))) = wrd (xAQ (qOf l) (8 * (i + 1))) (i / 8) := by
 refine Nat.eq_of_testBit_eq fun k => ?_
 have hx : l.getD i 0 < 2 ^ 8 := by
  rw [List.getD_eq_getElem?_getD,List.getElem?_eq_getElem hi]
  exact hb _ (List.getElem_mem hi)
 unfold wrd
 rw [Nat.testBit_or,xBe,xBe,← Nat.shiftLeft_eq,Nat.testBit_shiftLeft]
 unfold xAQ
 by_cases c : k < 64
 ·by_cases c1 : 64 * (i / 8) + k < 8 * i
  ·have c2 : ¬ k ≥ 8 * (i % 8) := by omega
   have c3 : 64 * (i / 8) + k < 8 * (i + 1) := by omega
   simp [c,c1,c2,c3]
  ·have c2 : k ≥ 8 * (i % 8) := by omega
   by_cases c3 : 64 * (i / 8) + k < 8 * (i + 1)
   ·unfold qOf
    have e1 : (64 * (i / 8) + k) / 8 = i := by omega
    have e2 : (64 * (i / 8) + k) % 8 = k - 8 * (i % 8) := by omega
    simp [c,c1,c2,c3,e1,e2]
   ·have : (l.getD i 0).testBit (k - 8 * (i % 8)) = false := Nat.testBit_lt_two_pow (Nat.lt_of_lt_of_le hx (Nat.pow_le_pow_right (by omega) (by omega)))
    simp only [this,c,c1,c2,c3]; simp
 ·have : (l.getD i 0).testBit (k - 8 * (i % 8)) = false := Nat.testBit_lt_two_pow (Nat.lt_of_lt_of_le hx (Nat.pow_le_pow_right (by omega) (by omega)))
  simp only [this,c]; simp
theorem xW3 {l : List Nat} (hb : ∀ x ∈ l,x < 256) {i : Nat} (hi : i < l.length) (h64 : i < 64) : (tw (xAQ (qOf l) (8 * i))).set (i / 8) (wrd (xAQ (qOf l) (8 * (i + 1))) (i / 8)) = tw (xAQ (qOf l) (8 * (i + 1))) := by
 refine xH7 (by simp [xAd]) (xAd _) fun a ha => ?_
 rw [xFo _ ha]
 by_cases e : a = i / 8
 ·subst e
  rw [List.getD_eq_getElem?_getD,List.getElem?_set_self (by rw [xAd]; omega)]; rfl
 ·have : ((tw (xAQ (qOf l) (8 * i))).set (i / 8) (wrd (xAQ (qOf l) (8 * (i + 1))) (i / 8))).getD a 0 = (tw (xAQ (qOf l) (8 * i))).getD a 0 := by
   rw [List.getD_eq_getElem?_getD,List.getElem?_set_ne (fun h => e h.symm),← List.getD_eq_getElem?_getD]
  rw [this,xFo _ ha]
  refine xDT fun k hk => ?_
  unfold xAQ
  by_cases c : 64 * a + k < 8 * i
  ·have : 64 * a + k < 8 * (i + 1) := by omega
   simp [c,this]
  ·have : ¬ 64 * a + k < 8 * (i + 1) := by omega
   simp [c,this]
theorem yGh {x i : Nat} (hx : x < 256) : IntKind.u64.wrap ((x : Int) * 2 ^ (min (8 * (((i % 8 : Nat) : Int))).toNat IntKind.u64.bits)) = ((x * 2 ^ (8 * (i % 8)) : Nat) : Int) := by
 have e : min (8 * (((i % 8 : Nat) : Int))).toNat IntKind.u64.bits = 8 * (i % 8) := by
  have : (8 * (((i % 8 : Nat) : Int))).toNat = 8 * (i % 8) := by omega
  rw [this]
  exact Nat.min_eq_left (by show _ ≤ 64; omega)
 rw [e]
 have h2 : x * 2 ^ (8 * (i % 8)) < 18446744073709551616 := by
  have h3 : 2 ^ (8 * (i % 8)) ≤ 2 ^ 56 := Nat.pow_le_pow_right (by omega) (by omega)
  have : x * 2 ^ (8 * (i % 8)) ≤ 255 * 2 ^ 56 := Nat.mul_le_mul (by omega) h3
  omega
 have : ((x : Int) * 2 ^ (8 * (i % 8))) = ((x * 2 ^ (8 * (i % 8)) : Nat) : Int) := by simp
 rw [this]
 exact xRe h2
theorem yCR {x i : Nat} (hx : x < 256) : x * 2 ^ (8 * (i % 8)) < 18446744073709551616 := by
 have h3 : 2 ^ (8 * (i % 8)) ≤ 2 ^ 56 := Nat.pow_le_pow_right (by omega) (by omega)
 have : x * 2 ^ (8 * (i % 8)) ≤ 255 * 2 ^ 56 := Nat.mul_le_mul (by omega) h3
 omega
theorem yCS {l : List Nat} {z : Bool} (hl : l.length = 64) (hb : ∀ x ∈ l,x < 256) : ∀ e i,i + e = 64 →
  L.loop xJT xT2 ⟨xJU (.ptr 0 0) (.sl z 64 (bs l)) (.int .i64 64) (.int .i64 (i : Nat)),[.cells false false (w64 (tw (xAQ (qOf l) (8 * i))))]⟩ =
   some (.exit 0,⟨xJU (.ptr 0 0) (.sl z 64 (bs l)) (.int .i64 64) (.int .i64 64),[.cells false false (w64 (tw (qOf l)))]⟩) := by
 intro e
 induction e with
 | zero =>
  intro i hi
  obtain rfl : i = 64 := by omega
  rw [xXW]
  have : tw (xAQ (qOf l) (8 * 64)) = tw (qOf l) := xQk _
  simp (maxSteps := 30000000) (disch := first|exact D2|fail) only [xPZ,WB,Nat.reduceMul,this,↓reduceIte,xT3]
 | succ e ih =>
  intro i hi
  have hlt : (i : Int) < 64 := by omega
  have hx : l.getD i 0 < 256 := by
   have h2 : i < l.length := by omega
   rw [List.getD_eq_getElem?_getD,List.getElem?_eq_getElem h2]
   exact hb _ (List.getElem_mem h2)
  have ih' := ih (i + 1) (by omega)
  have h1 := yGh (i := i) hx
  have h2 := yCR (i := i) hx
  have h3 := xFo (xAQ (qOf l) (8 * i)) (show i / 8 < 8 by omega)
  have h4 := yDm (xH8 (xAQ (qOf l) (8 * i)) (i / 8)) h2
  rw [xUV hb (by omega) (by omega)] at h4
  have h5 := xW3 hb (show i < l.length by omega) (by omega)
  have h6 : IntKind.u64.wrap ((l.getD i 0 : Nat) : Int) = ((l.getD i 0 : Nat) : Int) := xRe (by omega)
  have hq : (i : Int).tdiv 8 = ((i / 8 : Nat) : Int) := yBO i 8
  have hr : (i : Int).tmod 8 = ((i % 8 : Nat) : Int) := yBP i 8
  have hi8 : i / 8 < 8 := by omega
  rw [xXW]
  simp (maxSteps := 30000000) (disch := first|exact D2|fail) only [xPZ,WB,hlt,↓reduceIte,hq,WA,xDg,xAJ,xF6,h3,h6,xAn,hr,h1,h4,AV.cells,W2,h5,xT3,ih']
theorem yCT {l : List Nat} {z : Bool} (hl : l.length = 64) (hb : ∀ x ∈ l,x < 256) : L.pcall 58 [.sl z 64 (bs l)] = some (xCb (qOf l)) := by
 have e1 := yCS (z := z) hl hb 64 0 rfl
 have e2 : w64 (tw (xAQ (qOf l) (8 * 0))) = [.int .u64 0,.int .u64 0,.int .u64 0,.int .u64 0,.int .u64 0,.int .u64 0,.int .u64 0,.int .u64 0] := xNj _
 rw [e2] at e1
 have e1' : L.loop xJT xT2 ⟨xJU (.ptr 0 0) (.sl z 64 (bs l)) (.int .i64 64) (.int .i64 0),[.cells false false [.int .u64 0,.int .u64 0,.int .u64 0,.int .u64 0,.int .u64 0,.int .u64 0,.int .u64 0,.int .u64 0]]⟩ = _ := e1
 have htake : List.take 8 (tw (qOf l)) = tw (qOf l) := List.take_of_length_le (by rw [xAd]; omega)
 have hw2 := xGy (G := [.cells false false (w64 (tw (qOf l)))]) (o := 0) (z := false) (l := tw (qOf l)) (l' := tw (qOf l)) rfl
 have hl0 : (bs l).length = 64 := by rw [xBE,hl]
 unfold xCb
 rw [yFC,a58,xAa]
 simp (maxSteps := 30000000) (disch := first|exact D2|fail) only [WB,Nat.reduceSub,AV.cells,AV.isCell,↓reduceIte,xT3,e1',xAJ,htake,W2,xAd,hw2]
theorem xW4 (q : Q) {i : Nat} (h : i < 64) : wrd q (i / 8) / 2 ^ (8 * (i % 8)) % 256 = byQ q i := by
 refine Nat.eq_of_testBit_eq fun k => ?_
 rw [show (256 : Nat) = 2 ^ 8 from rfl,Nat.testBit_mod_two_pow,Nat.testBit_div_two_pow]
 unfold wrd byQ
 rw [xBe,xBe]
 by_cases c : k < 8
 ·have e1 : 64 * (i / 8) + (k + 8 * (i % 8)) = 8 * i + k := by omega
  have e2 : k + 8 * (i % 8) < 64 := by omega
  simp [c,e1,e2]
 ·simp [c]
theorem yGi (q : Q) {i : Nat} (h : i < 64) : IntKind.u8.wrap (((wrd q (i / 8) : Nat) : Int).fdiv (2 ^ (min (8 * (((i % 8 : Nat) : Int))).toNat IntKind.u64.bits))) = ((byQ q i : Nat) : Int) := by
 have e : min (8 * (((i % 8 : Nat) : Int))).toNat IntKind.u64.bits = 8 * (i % 8) := by
  have : (8 * (((i % 8 : Nat) : Int))).toNat = 8 * (i % 8) := by omega
  rw [this]
  exact Nat.min_eq_left (by show _ ≤ 64; omega)
 rw [e]
 have : ((2 : Int) ^ (8 * (i % 8))) = ((2 ^ (8 * (i % 8)) : Nat) : Int) := by simp
 rw [this,Int.fdiv_eq_ediv_of_nonneg _ (Int.natCast_nonneg _),← Int.natCast_ediv,← xW4 q h]
 generalize wrd q (i / 8) / 2 ^ (8 * (i % 8)) = m
 show ((m : Int)) % 256 = _
 omega
def xLd (st : List Nat) (off : Nat) (q : Q) (i : Nat) : List Nat := st.take off ++ (bsQ q).take i ++ st.drop (off + i)
theorem xUW (st : List Nat) (off : Nat) (q : Q) : xLd st off q 0 = st := by simp [xLd]
theorem xK5 {st : List Nat} {off i : Nat} (q : Q) (h : off + 64 ≤ st.length) (hi : i ≤ 64) : (xLd st off q i).length = st.length := by
 unfold xLd
 have := xF5 q
 simp only [List.length_append,List.length_take,List.length_drop]; omega
theorem xW5 {st : List Nat} {off i : Nat} (q : Q) (h : off + 64 ≤ st.length) (hi : i < 64) : (xLd st off q i).set (off + i) (byQ q i) = xLd st off q (i + 1) := by
 have hl := xF5 q
 unfold xLd
 have h1 : (st.take off ++ (bsQ q).take i).length = off + i := by simp; omega
 rw [List.set_append_right _ _ (by omega),h1,Nat.sub_self,List.drop_eq_getElem_cons (show off + i < st.length by omega),List.set_cons_zero]
 have e : (bsQ q)[i] = byQ q i := by
  have := xYg q hi
  rw [List.getD_eq_getElem?_getD,List.getElem?_eq_getElem (by omega)] at this
  exact this
 have ht : (bsQ q).take (i + 1) = (bsQ q).take i ++ [byQ q i] := by
  rw [List.take_add_one,List.getElem?_eq_getElem (show i < (bsQ q).length by omega)]
  show _ ++ [(bsQ q)[i]] = _
  exact congrArg (fun z => List.take i (bsQ q) ++ [z]) e
 rw [ht]
 simp [Nat.add_assoc]
section
variable {G : Heap} {sb tb off : Nat} {q : Q}
theorem yAv {st : List Nat} (hoff : off + 64 ≤ st.length) (hst : sb ≠ tb) : ∀ e i,i + e = 64 → ∀ G : Heap,G[sb]? = some (.cells false false (bs (xLd st off q i))) → G[tb]? = some (.cells false false (w64 (tw q))) →
  L.loop xJV xT4 ⟨xJW (.own false sb off 64 1) (.ptr tb 0) (.int .i64 64) (.int .i64 (i : Nat)),G⟩ =
   some (.exit 0,⟨xJW (.own false sb off 64 1) (.ptr tb 0) (.int .i64 64) (.int .i64 64),G.set sb (.cells false false (bs (xLd st off q 64)))⟩) := by
 intro e
 induction e with
 | zero =>
  intro i hi G gs gt
  obtain rfl : i = 64 := by omega
  have hset : G.set sb (.cells false false (bs (xLd st off q 64))) = G := by
   apply List.ext_getElem?
   intro j
   by_cases e : sb = j
   ·subst e; rw [xEJ (xA4 gs),gs]
   ·rw [xBH e]
  rw [xXX]
  simp (maxSteps := 30000000) (disch := first|exact D2|fail) only [xP0,WB,↓reduceIte,xT5,hset]
 | succ e ih =>
  intro i hi G gs gt
  have hlt : (i : Int) < 64 := by omega
  have h1 := yGi q (show i < 64 by omega)
  have h3 := xFo q (show i / 8 < 8 by omega)
  have hq : (i : Int).tdiv 8 = ((i / 8 : Nat) : Int) := yBO i 8
  have hr : (i : Int).tmod 8 = ((i % 8 : Nat) : Int) := yBP i 8
  have hi8 : i / 8 < 8 := by omega
  have hlen := xK5 (i := i) q hoff (by omega)
  have h5 := xW5 q hoff (show i < 64 by omega)
  have ih' := ih (i + 1) (by omega) (G.set sb (.cells false false (bs (xLd st off q (i + 1))))) (by rw [xEJ (xA4 gs)]) (by rw [xBH hst]; exact gt)
  rw [List.set_set] at ih'
  rw [xXX]
  simp (maxSteps := 30000000) (disch := first|exact D2|fail) only [xP0,WB,hlt,↓reduceIte,hq,WA,gt,xDg,xAJ,xF6,h3,hr,h1,AV.cells,gs,h5,xT5,ih']
theorem xUX {st : List Nat} (hoff : off + 64 ≤ st.length) (gs : G[sb]? = some (.cells false false (bs st))) :
  L.icall (.func 59 []) [.own false sb off 64 1,xCb q] G = some (.tup [],G.set sb (.cells false false (bs (xLd st off q 64))) ++ [.cells false false (w64 (tw q))]) := by
 have hs := xA4 gs
 have e1 := yAv (tb := G.length) (q := q) hoff (show sb ≠ G.length by omega) 64 0 rfl (G ++ [.cells false false (w64 (tw q))]) (by rw [xAS hs,xUW]; exact gs) (by rw [xBq rfl]; rfl)
 rw [xDp hs] at e1
 have e1' : L.loop xJV xT4 ⟨xJW (.own false sb off 64 1) (.ptr G.length 0) (.int .i64 64) (.int .i64 0),G ++ [.cells false false (w64 (tw q))]⟩ = _ := e1
 have hc1 := xBt (tw q)
 unfold xCb
 rw [yFD,a59,xAu]
 simp (disch := omega) only [WB,Nat.reduceAdd,Nat.reduceSub,AV.cells,hc1,↓reduceIte,xT5,e1']
end
end Go.Abs.Events
