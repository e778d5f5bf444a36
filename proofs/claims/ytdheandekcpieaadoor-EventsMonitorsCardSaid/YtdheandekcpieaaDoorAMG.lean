/- The reference's Loads; Load's errors. -/
import Derived.Test.YtdheandekcpieaaDoorAbsBun
import Derived.Test.YtdheandekcpieaaDoorAMF
import Derived.Laws.Strings
namespace Go.Abs.Events
open Go Go.Abs
set_option maxHeartbeats 2000000
set_option linter.unusedSimpArgs false
set_option linter.unusedVariables false
section
variable {o : Nat} {B : List Nat} {G : Heap} {fs : List Nd} {z : Bool}
end
section
variable {fs : List Nd} {B : List Nat} {o : Nat} {G : Heap}
end
theorem xL5 {t : Int} (ht : 0 ≤ t ∧ t ≤ 10) {a : Nat} (ha : a < 512) : L.pcall 64 [.int .i64 t,.int .i64 (a : Nat)] = some (.int .i64 (tvs t a)) := by
 unfold tvs tv
 by_cases c8 : t = 8
 ·subst c8
  have h : ((a : Nat) : Int).tdiv 64 = ((a / 64 : Nat) : Int) := by rw [Int.tdiv_eq_ediv_of_nonneg (by omega)]; omega
  rw [yDS,a64,xAb]
  simp (disch := omega) only [WB,Nat.reduceAdd,Nat.reduceSub,↓reduceIte,h]
  try rfl
 by_cases c9 : t = 9
 ·subst c9
  have h : ((a : Nat) : Int).tdiv 8 = ((a / 8 : Nat) : Int) := by rw [Int.tdiv_eq_ediv_of_nonneg (by omega)]; omega
  have h2 : ((a / 8 : Nat) : Int).tmod 8 = ((a / 8 % 8 : Nat) : Int) := by rw [Int.tmod_eq_emod_of_nonneg (by omega)]; omega
  rw [yDS,a64,xAb]
  simp (disch := omega) only [WB,Nat.reduceAdd,Nat.reduceSub,Int.reduceEq,↓reduceIte,h,h2,Int.reduceLT]
  try rfl
 by_cases c10 : t = 10
 ·subst c10
  have h2 : ((a : Nat) : Int).tmod 8 = ((a % 8 : Nat) : Int) := by rw [Int.tmod_eq_emod_of_nonneg (by omega)]; omega
  rw [yDS,a64,xAb]
  simp (disch := omega) only [WB,Nat.reduceAdd,Nat.reduceSub,Int.reduceEq,↓reduceIte,h2,Int.reduceLT]
  try rfl
 have hlt : t < 8 := by omega
 rw [yDS,a64,xAb]
 simp (disch := omega) only [WB,Nat.reduceAdd,Nat.reduceSub,c8,↓reduceIte,c9,c10,hlt]
def wth (x a v : Nat) : Nat := if x = 8 then v * 64 + a % 64 else if x = 9 then a / 64 * 64 + v * 8 + a % 8 else a / 8 * 8 + v
theorem yCD {x a v : Nat} (hx : x = 8 ∨ x = 9 ∨ x = 10) (ha : a < 512) (hv : v < 8) : L.pcall 65 [.int .i64 (a : Nat),.int .i64 (x : Nat),.int .i64 (v : Nat)] = some (.int .i64 (wth x a v : Nat)) := by
 have h64 := xL5 (t := ((x : Nat) : Int)) (by omega) ha
 rcases hx with rfl | rfl | rfl
 ·have h64 : L.pcall 64 [.int .i64 8,.int .i64 (a : Nat)] = some (.int .i64 ((a / 64 : Nat) : Int)) := h64
  have hw : (a : Int) + (((v : Nat) : Int) - ((a / 64 : Nat) : Int)) * 64 = ((wth 8 a v : Nat) : Int) := by
   show _ = ((v * 64 + a % 64 : Nat) : Int); omega
  have hm : IntKind.i64.wrap ((((v : Nat) : Int) - ((a / 64 : Nat) : Int)) * 64) = (((v : Nat) : Int) - ((a / 64 : Nat) : Int)) * 64 := yAe (by omega) (by omega)
  have hs : IntKind.i64.wrap (((v : Nat) : Int) - ((a / 64 : Nat) : Int)) = ((v : Nat) : Int) - ((a / 64 : Nat) : Int) := yAe (by omega) (by omega)
  have hb : wth 8 a v < 1000 := by show v * 64 + a % 64 < 1000; omega
  rw [yEF,a65,xAb]
  simp (disch := first | assumption | omega | rfl | decide) only [WB,Nat.reduceAdd,Nat.reduceSub,AV.cells,↓reduceIte,Nat.reduceLeDiff,AV.isCell,Int.reduceSub,h64,xAD,xAn]
  rw [hw]
 ·have h64 : L.pcall 64 [.int .i64 9,.int .i64 (a : Nat)] = some (.int .i64 ((a / 8 % 8 : Nat) : Int)) := h64
  have hw : (a : Int) + (((v : Nat) : Int) - ((a / 8 % 8 : Nat) : Int)) * 8 = ((wth 9 a v : Nat) : Int) := by
   show _ = ((a / 64 * 64 + v * 8 + a % 8 : Nat) : Int); omega
  have hm : IntKind.i64.wrap ((((v : Nat) : Int) - ((a / 8 % 8 : Nat) : Int)) * 8) = (((v : Nat) : Int) - ((a / 8 % 8 : Nat) : Int)) * 8 := yAe (by omega) (by omega)
  have hs : IntKind.i64.wrap (((v : Nat) : Int) - ((a / 8 % 8 : Nat) : Int)) = ((v : Nat) : Int) - ((a / 8 % 8 : Nat) : Int) := yAe (by omega) (by omega)
  have hb : wth 9 a v < 1000 := by show a / 64 * 64 + v * 8 + a % 8 < 1000; omega
  rw [yEF,a65,xAb]
  simp (disch := first | assumption | omega | rfl | decide) only [WB,Nat.reduceAdd,Nat.reduceSub,AV.cells,↓reduceIte,Nat.reduceLeDiff,AV.isCell,Int.reduceSub,h64,xAD,xAn]
  rw [hw]
 ·have h64 : L.pcall 64 [.int .i64 10,.int .i64 (a : Nat)] = some (.int .i64 ((a % 8 : Nat) : Int)) := h64
  have hw : (a : Int) + (((v : Nat) : Int) - ((a % 8 : Nat) : Int)) = ((wth 10 a v : Nat) : Int) := by
   show _ = ((a / 8 * 8 + v : Nat) : Int); omega
  have hs : IntKind.i64.wrap (((v : Nat) : Int) - ((a % 8 : Nat) : Int)) = ((v : Nat) : Int) - ((a % 8 : Nat) : Int) := yAe (by omega) (by omega)
  have hb : wth 10 a v < 1000 := by show a / 8 * 8 + v < 1000; omega
  have hm : (((v : Nat) : Int) - ((a % 8 : Nat) : Int)) * 1 = ((v : Nat) : Int) - ((a % 8 : Nat) : Int) := Int.mul_one _
  rw [yEF,a65,xAb]
  simp (disch := first | assumption | omega | rfl | decide) only [WB,Nat.reduceAdd,Nat.reduceSub,AV.cells,↓reduceIte,Nat.reduceLeDiff,AV.isCell,Int.reduceSub,Int.reduceToNat,h64,xAD,xAn]
  rw [hm,hw]
section
variable {n : Nd} {e : Ev} {G : Heap} {p q a : Nat}
theorem yCE (hz : n.args.length = e.args.length) (h2 : n.args.length ≤ 100) (hok : ∀ t ∈ n.args,0 ≤ t ∧ t ≤ 10) (ha : a < 512) (gp : G[p]? = some (.cells false false n.c)) (gq : G[q]? = some (.cells false false (evC e))) : ∀ k i,i + k = n.args.length → ∃ i' : Nat,
  L.loop xK4 xVd ⟨xIL (.int .i64 (a : Nat)) (.ptr p 0) (.ptr q 0) (.bool false) (.int .i64 (i : Nat)),G⟩ =
   some (if mat a (n.args.drop i) (e.args.drop i) = true then (.exit 0,⟨xIL (.int .i64 (a : Nat)) (.ptr p 0) (.ptr q 0) (.bool false) (.int .i64 (i' : Nat)),G⟩)
    else (.ret,⟨xIL (.int .i64 (a : Nat)) (.ptr p 0) (.ptr q 0) (.bool false) (.int .i64 (i' : Nat)),G⟩)) := by
 have hnv : xA7 n.z n.args = .sl n.z n.args.length (xAv n.args) := rfl
 have hev : xA7 e.z e.args = .sl e.z e.args.length (xAv e.args) := rfl
 unfold Nd.c at gp
 unfold evC at gq
 rw [hnv] at gp
 rw [hev] at gq
 intro k
 induction k with
 | zero =>
  intro i hi
  obtain rfl : i = n.args.length := by omega
  refine ⟨n.args.length,?_⟩
  rw [if_pos (by rw [List.drop_length]; rfl),xVe]
  simp (maxSteps := 30000000) (disch := first|exact D6|fail) only [xN6,WB,gp,↓reduceIte,xN7]
 | succ k ih =>
  intro i hi
  have hlt : (i : Int) < (n.args.length : Nat) := by omega
  have hl1 : i < n.args.length := by omega
  have hl2 : i < e.args.length := by omega
  obtain ⟨i',ih'⟩ := ih (i + 1) (by omega)
  have hm : n.args.getD i 0 ∈ n.args := by rw [List.getD_eq_getElem?_getD,List.getElem?_eq_getElem hl1]; exact List.getElem_mem hl1
  have hv := xL5 (hok _ hm) ha
  have em : mat a (n.args.drop i) (e.args.drop i) = (tvs (n.args.getD i 0) a == e.args.getD i 0 && mat a (n.args.drop (i + 1)) (e.args.drop (i + 1))) := by
   rw [List.drop_eq_getElem_cons hl1,List.drop_eq_getElem_cons hl2]
   show (tvs _ _ == _ && _) = _
   rw [List.getD_eq_getElem?_getD,List.getElem?_eq_getElem hl1,List.getD_eq_getElem?_getD,List.getElem?_eq_getElem hl2]
   rfl
  rw [em]
  generalize hN : n.args.getD i 0 = t at *
  generalize hE : e.args.getD i 0 = v at *
  generalize tvs t a = w at *
  by_cases c1 : w = v
  ·have cb : (w == v) = true := by simpa using c1
   simp only [cb,Bool.true_and]
   refine ⟨i',?_⟩
   rw [xVe]
   simp (maxSteps := 30000000) (disch := first|exact D6|fail) only [xN6,WB,gp,hlt,↓reduceIte,W2,hN,hv,c1,xAD,xAn,gq,hE,xAl,xN7,ih']
  ·have cb : (w == v) = false := by simpa using c1
   simp only [cb,Bool.false_and,Bool.false_eq_true,if_false]
   refine ⟨i,?_⟩
   rw [xVe]
   simp (maxSteps := 30000000) (disch := first|exact D6|fail) only [xN6,WB,gp,hlt,↓reduceIte,W2,hN,hv,xAD,xAn,gq,hE,xAl,c1,xN7]
end
def rl (q : Q) : List Bool := (List.range 512).map q
theorem xAZ (q : Q) : (rl q).length = 512 := by simp [rl]
theorem yCF (q : Q) {i : Nat} (h : i < 512) : (rl q).getD i false = q i := by
 unfold rl
 rw [List.getD_eq_getElem?_getD,List.getElem?_map,List.getElem?_range h]; rfl
theorem yEY {f : Nat → Bool} {k : Nat} (h : ∀ j,k ≤ j → f j = false) (n : Nat) : wdN f n < 2 ^ k := by
 refine Nat.lt_pow_two_of_testBit _ fun i hi => ?_
 rw [xBi,h i hi]; simp
theorem xVu (q : Q) {i : Nat} (h : i < 512) (hq : q i = true) : byQ (xAI q i) (i / 8) + 2 ^ (i % 8) = byQ (xAI q (i + 1)) (i / 8) := by
 have hl : byQ (xAI q i) (i / 8) < 2 ^ (i % 8) := by
  unfold byQ
  refine yEY (fun j hj => ?_) 8
  unfold xAI
  have : ¬ 8 * (i / 8) + j < i := by omega
  simp [this]
 have e := Nat.two_pow_add_eq_or_of_lt hl 1
 rw [Nat.mul_one] at e
 rw [Nat.add_comm,e,Nat.or_comm]
 unfold byQ
 rw [xV6 _ (by omega)]
 refine xC7 fun j hj => ?_
 unfold xAI
 by_cases e : j = i % 8
 ·subst e
  have h1 : 8 * (i / 8) + i % 8 = i := by omega
  rw [h1,hq]; simp
 ·have h1 : (j == i % 8) = false := by simpa using e
  have h2 : (8 * (i / 8) + j < i + 1) = (8 * (i / 8) + j < i) := by rw [eq_iff_iff]; omega
  simp [h1,h2]
theorem xRl (q : Q) {i b : Nat} (h : b ≠ i / 8 ∨ q i = false) (hb : b < 64) : byQ (xAI q i) b = byQ (xAI q (i + 1)) b := by
 unfold byQ
 refine xC7 fun j hj => ?_
 unfold xAI
 by_cases e : 8 * b + j = i
 ·rcases h with h | h
  ·omega
  ·rw [e,h]; simp
 ·have h2 : (8 * b + j < i + 1) = (8 * b + j < i) := by rw [eq_iff_iff]; omega
  simp [h2]
theorem xXB (q : Q) {i : Nat} (h : i < 512) (hq : q i = true) : (bsQ (xAI q i)).set (i / 8) (byQ (xAI q i) (i / 8) + 2 ^ (i % 8)) = bsQ (xAI q (i + 1)) := by
 refine List.ext_getElem (by simp [bsQ]) fun b h1 h2 => ?_
 have hb : b < 64 := by simpa [bsQ] using h2
 rw [List.getElem_set]
 by_cases e : i / 8 = b
 ·subst e
  rw [if_pos rfl,xVu q h hq]
  simp [bsQ]
 ·rw [if_neg e]
  have := xRl q (i := i) (b := b) (.inl fun x => e x.symm) hb
  simpa [bsQ] using this
theorem yAl (q : Q) {i : Nat} (hq : q i = false) : bsQ (xAI q i) = bsQ (xAI q (i + 1)) := by
 unfold bsQ
 exact List.map_congr_left fun b hb => xRl q (.inr hq) (List.mem_range.1 hb)
section
variable {q : Q} {z : Bool} {ob : Nat} {s0 s1 s5 s8 s9 s10 s11 : AV}
end
theorem xY5 {x a v : Nat} (ha : a < 512) (hv : v < 8) : wth x a v < 512 := by
 unfold wth
 split
 ·omega
 ·split <;> omega
theorem yCG {x a v : Nat} (hx : x = 8 ∨ x = 9 ∨ x = 10) (ha : a < 512) (hv : v < 8) : kx x (wth x a v) = kx x a := by
 unfold wth kx
 rcases hx with rfl | rfl | rfl <;> simp <;> omega
theorem yCH {x a s : Nat} (hx : x = 8 ∨ x = 9 ∨ x = 10) (ha : a < 512) (hs : s < 512) (h : kx x a = kx x s) : s = wth x a (dg x s) ∧ dg x s < 8 := by
 refine ⟨?_,yDr hs⟩
 unfold wth dg
 unfold kx at h
 rcases hx with rfl | rfl | rfl <;> simp at h ⊢ <;> omega
def avQ (x : Nat) (q : Q) (a v : Nat) : Bool := (List.range v).any fun w => q (wth x a w)
theorem yCI {x a : Nat} (hx : x = 8 ∨ x = 9 ∨ x = 10) (q : Q) (ha : a < 512) : avQ x q a 8 = exQ x q a := by
 unfold avQ exQ oQ
 rw [Bool.eq_iff_iff,List.any_eq_true,List.any_eq_true]
 constructor
 ·rintro ⟨v,hv,h⟩
  have hv := List.mem_range.1 hv
  refine ⟨wth x a v,List.mem_range.2 (xY5 ha hv),?_⟩
  rw [yCG hx ha hv,h]; simp
 ·rintro ⟨s,hs,h⟩
  have hs := List.mem_range.1 hs
  simp only [Bool.and_eq_true,beq_iff_eq] at h
  have := yCH hx ha hs h.2
  refine ⟨dg x s,List.mem_range.2 this.2,?_⟩
  rw [← this.1]; exact h.1
theorem xXC (x : Nat) (q : Q) (a v : Nat) : avQ x q a (v + 1) = (avQ x q a v || q (wth x a v)) := by
 unfold avQ
 rw [List.range_succ,List.any_append]; simp
def RW (q : Q) : AV := .sl false 512 (bls (rl q))
theorem xEl (q : Q) {i : Nat} (h : i < 512) : List.take 1 (List.drop i (bls (rl q))) = [.bool (q i)] := by
 rw [xC6 (by rw [xAZ]; exact h),yCF q h]
theorem xCO {r : List Bool} {a : Nat} (h : a < r.length) (b : Bool) : List.take a (bls r) ++ (.bool b :: List.drop (a + 1) (bls r)) = bls (r.set a b) := by
 unfold bls
 rw [List.map_set,List.set_eq_take_append_cons_drop,if_pos (by simpa using h)]
section
variable {q : Q} {qs : List Q} {n : Nd} {G : Heap} {ro rb nb a A x : Nat} {r : List Bool} {s0 s1 s5 s9 s10 s11 : AV}
end
theorem xVv {n : Nd} {e : Ev} {a : Nat} (h2 : n.args.length ≤ 100) (hok : ∀ t ∈ n.args,0 ≤ t ∧ t ≤ 10) (ha : a < 512) : L.pcall 63 [.agg n.c,.agg (evC e),.int .i64 (a : Nat)] =
  some (.bool ((if n.name = e.name ∧ n.args.length = e.args.length then fun j => mat j n.args e.args else fQ) a)) := by
 have hnv : xA7 n.z n.args = .sl n.z n.args.length (xAv n.args) := rfl
 have hev : xA7 e.z e.args = .sl e.z e.args.length (xAv e.args) := rfl
 by_cases c1 : n.name = e.name
 ·have d1 := eq_true c1
  by_cases c2 : n.args.length = e.args.length
  ·have d2 : (((n.args.length : Nat) : Int) = (e.args.length : Nat)) = True := eq_true (by omega)
   rw [if_pos ⟨c1,c2⟩]
   obtain ⟨i',e1⟩ := yCE (n := n) (e := e) (p := 0) (q := 1) (G := [.cells false false n.c,.cells false false (evC e)]) c2 h2 hok ha rfl rfl n.args.length 0 (by omega)
   rw [List.drop_zero,List.drop_zero] at e1
   unfold Nd.c evC at e1 ⊢
   rw [hnv,hev] at e1 ⊢
   have e1' : L.loop xK4 xVd ⟨xIL (.int .i64 (a : Nat)) (.ptr 0 0) (.ptr 1 0) (.bool false) (.int .i64 0),[.cells false false [.int .u8 (n.op : Nat),.int .i64 n.name,.sl n.z n.args.length (xAv n.args),.int .i64 n.x,.int .i64 n.a,.int .i64 n.b],.cells false false [.int .i64 e.name,.sl e.z e.args.length (xAv e.args)]]⟩ = _ := e1
   show _ = some (AV.bool (mat a n.args e.args))
   cases hm : mat a n.args e.args with
   | true =>
    rw [hm] at e1'
    simp only [if_true] at e1'
    rw [yDR,a63,xAb]
    simp (maxSteps := 30000000) (disch := first|exact D6|fail) only [WB,Nat.reduceAdd,Nat.reduceSub,AV.cells,AV.isCell,↓reduceIte,d1,d2,xN7,e1']
   | false =>
    rw [hm] at e1'
    simp only [Bool.false_eq_true,if_false] at e1'
    rw [yDR,a63,xAb]
    simp (maxSteps := 30000000) (disch := first|exact D6|fail) only [WB,Nat.reduceAdd,Nat.reduceSub,AV.cells,AV.isCell,↓reduceIte,d1,d2,xN7,e1']
  ·have d2 : ¬ ((n.args.length : Nat) : Int) = (e.args.length : Nat) := by omega
   rw [if_neg fun q => c2 q.2]
   unfold Nd.c evC
   rw [hnv,hev]
   rw [yDR,a63,xAb]
   simp (maxSteps := 30000000) (disch := first|exact D6|fail) only [WB,Nat.reduceAdd,Nat.reduceSub,AV.cells,AV.isCell,↓reduceIte,d1,d2]
   try rfl
 ·rw [if_neg fun q => c1 q.1]
  unfold Nd.c evC
  rw [hnv,hev]
  rw [yDR,a63,xAb]
  simp (maxSteps := 30000000) (disch := first|exact D6|fail) only [WB,Nat.reduceAdd,Nat.reduceSub,AV.cells,AV.isCell,↓reduceIte,c1]
  try rfl
theorem xEm {q : Q} {a : Nat} (ha : a < 512) : (rl (xAI q a)).set a (q a) = rl (xAI q (a + 1)) := by
 refine List.ext_getElem (by simp [rl]) fun b h1 h2 => ?_
 have hb : b < 512 := by simpa [rl] using h2
 rw [List.getElem_set]
 by_cases e : a = b
 ·subst e
  rw [if_pos rfl]
  simp [rl,xAI]
 ·rw [if_neg e]
  have h3 : (b < a + 1) = (b < a) := by rw [eq_iff_iff]; omega
  simp [rl,xAI,h3]
section
variable {n : Nd} {e : Ev} {qs : List Q} {G : Heap} {ro rb nb eb at_ a : Nat} {st : List Nat} {z zf : Bool} {fs : List Nd} {v8 s9 s11 : AV}
end
section
variable {n : Nd} {e : Ev} {qs : List Q} {G : Heap} {ro rb nb eb at_ a : Nat} {st : List Nat} {z zf : Bool} {fs : List Nd} {v8 s9 s11 : AV}
end
section
variable {n : Nd} {e : Ev} {qs : List Q} {ro rb nb eb at_ : Nat} {st : List Nat} {z zf : Bool} {fs : List Nd} {v8 s9 s11 : AV}
end
section
variable {G : Heap} {o : Nat} {l : List Nat}
def ovr (l : List Nat) (i : Nat) : List Nat := List.replicate i 201 ++ l.drop i
theorem yAm {l : List Nat} {i : Nat} (h : i ≤ l.length) : (ovr l i).length = l.length := by simp [ovr]; omega
theorem yAn {l : List Nat} {i : Nat} (h : i < l.length) : (ovr l i).set i 201 = ovr l (i + 1) := by
 unfold ovr
 rw [List.set_append_right _ _ (by simp),List.length_replicate,Nat.sub_self,List.drop_eq_getElem_cons h,List.set_cons_zero,List.replicate_succ',List.append_assoc]
 rfl
theorem yCJ (hl : l.length ≤ 100000) : ∀ k i,i + k = l.length → ∀ G : Heap,G[o]? = some (.cells false false (bs (ovr l i))) →
  L.loop xKD xUT ⟨xKE (.own false o 0 l.length 1) (.int .i64 (i : Nat)),G⟩ = some (.exit 0,⟨xKE (.own false o 0 l.length 1) (.int .i64 (l.length : Nat)),G.set o (.cells false false (bs (ovr l l.length)))⟩) := by
 intro k
 induction k with
 | zero =>
  intro i hi G go
  obtain rfl : i = l.length := by omega
  have hset : G.set o (.cells false false (bs (ovr l l.length))) = G := by
   obtain ⟨hk,hx⟩ := List.getElem?_eq_some_iff.1 go
   rw [← hx,List.set_getElem_self]
  rw [hset,xYV]
  simp (maxSteps := 30000000) (disch := first|exact D6|fail) only [xQ0,WB,↓reduceIte,xUU]
 | succ k ih =>
  intro i hi G go
  have hlt : i < l.length := by omega
  have hltI : ((i : Nat) : Int) < (l.length : Nat) := by omega
  have lo := xAQ go
  have hlen := yAm (l := l) (i := i) (by omega)
  have hs := yAn hlt
  have e1 := ih (i + 1) (by omega) (G.set o (.cells false false (bs (ovr l (i + 1))))) (xDH lo)
  rw [List.set_set] at e1
  generalize ovr l (i + 1) = l2 at *
  generalize ovr l i = l1 at *
  have hput : bs (List.take i l1) ++ (AV.int .u8 201 :: bs (List.drop (i + 1) l1)) = bs l2 := by rw [← hs]; exact xPu (n := 201) (by omega)
  rw [xYV]
  simp (maxSteps := 30000000) (disch := first|exact D6|fail) only [xQ0,WB,hltI,↓reduceIte,AV.cells,go,hput,xUU,e1]
theorem xY6 (go : G[o]? = some (.cells false false (bs l))) (hl : l.length ≤ 100000) : L.icall (.func 27 []) [.own false o 0 l.length 1] G = some (.tup [],G.set o (.cells false false (bs (ovr l l.length)))) := by
 have e1 := yCJ (o := o) hl l.length 0 (by omega) G (by simpa [ovr] using go)
 have e1' : L.loop xKD xUT ⟨xKE (.own false o 0 l.length 1) (.int .i64 0),G⟩ = _ := e1
 rw [yFW,a27,xAm]
 simp (disch := omega) only [WB,Nat.reduceSub,xUU,e1',↓reduceIte]
end
section
variable {o1 : Nat} {a b : List Nat} {H : Heap} {f1 z1 z2 : Bool}
theorem yCK (h1 : H[o1]? = some (.cells f1 z1 (bs a))) (hl : a.length = b.length) (hm : a.length < 1099511627776) : ∀ e i,i + e = a.length →
  ∃ j : Nat,L.loop xKy xUS ⟨xFG (.own false o1 0 a.length 1) (.sl z2 b.length (bs b)) (.bool false) (.int .i64 (i : Nat)),H⟩ =
   some (if a.drop i = b.drop i then (.exit 0,⟨xFG (.own false o1 0 a.length 1) (.sl z2 b.length (bs b)) (.bool false) (.int .i64 (a.length : Nat)),H⟩)
    else (.ret,⟨xFG (.own false o1 0 a.length 1) (.sl z2 b.length (bs b)) (.bool false) (.int .i64 (j : Nat)),H⟩)) := by
 intro e
 induction e with
 | zero =>
  intro i h
  obtain rfl : i = a.length := by omega
  refine ⟨0,?_⟩
  rw [if_pos (by rw [List.drop_length,hl,List.drop_length]),xKz]
  simp (maxSteps := 30000000) (disch := first|exact D6|fail) only [xEN,WB,↓reduceIte,xDN]
 | succ e ih =>
  intro i h
  have hlt : (i : Int) < (a.length : Nat) := by omega
  obtain ⟨j,ih'⟩ := ih (i + 1) (by omega)
  rw [← hl] at ih' ⊢
  have hd := xPy hl (0 : Nat) (show i < a.length by omega)
  by_cases c : a.getD i 0 = b.getD i 0
  ·refine ⟨j,?_⟩
   have hd' : (a.drop i = b.drop i) ↔ (a.drop (i + 1) = b.drop (i + 1)) := hd.trans ⟨fun h => h.2,fun h => ⟨c,h⟩⟩
   rw [xKz]
   by_cases e : a.drop (i + 1) = b.drop (i + 1)
   ·rw [if_pos e] at ih'
    rw [if_pos (hd'.2 e)]
    simp (maxSteps := 30000000) (disch := first|exact D6|fail) only [xEN,WB,hlt,↓reduceIte,h1,c,xAl,xDN,ih']
   ·rw [if_neg e] at ih'
    rw [if_neg (fun h => e (hd'.1 h))]
    simp (maxSteps := 30000000) (disch := first|exact D6|fail) only [xEN,WB,hlt,↓reduceIte,h1,c,xAl,xDN,ih']
  ·refine ⟨i,?_⟩
   have c' : (((a.getD i 0 : Nat) : Int) = ((b.getD i 0 : Nat) : Int)) = False := eq_false (by omega)
   rw [if_neg (fun h => c (hd.1 h).1),xKz]
   simp (maxSteps := 30000000) (disch := first|exact D6|fail) only [xEN,WB,hlt,↓reduceIte,h1,xAl,c',xDN]
theorem yAo (h1 : H[o1]? = some (.cells f1 z1 (bs a))) (hm : a.length < 1099511627776) : L.icall (.func 25 []) [.own false o1 0 a.length 1,.sl z2 b.length (bs b)] H = some (.bool (decide (a = b)),H) := by
 by_cases hl : a.length = b.length
 ·obtain ⟨j,h⟩ := yCK (z2 := z2) h1 hl hm a.length 0 (by omega)
  simp only [Int.natCast_zero,List.drop_zero] at h
  rw [yDQ,a25,xAm]
  by_cases c : a = b
  ·rw [if_pos c] at h
   rw [decide_eq_true c]
   rw [← hl] at h ⊢
   simp (maxSteps := 30000000) (disch := first|exact D6|fail) only [WB,Nat.reduceAdd,Nat.reduceSub,↓reduceIte,xDN,h]
  ·rw [if_neg c] at h
   rw [decide_eq_false c]
   rw [← hl] at h ⊢
   simp (maxSteps := 30000000) (disch := first|exact D6|fail) only [WB,Nat.reduceAdd,Nat.reduceSub,↓reduceIte,xDN,h]
 ·have hl' : (((a.length : Nat) : Int) = ((b.length : Nat) : Int)) = False := eq_false (by omega)
  rw [decide_eq_false (fun e => hl (by rw [e])),yDQ,a25,xAm]
  simp (maxSteps := 30000000) (disch := first|exact D6|fail) only [WB,Nat.reduceAdd,Nat.reduceSub,hl',↓reduceIte]
end
end Go.Abs.Events
