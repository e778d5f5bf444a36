/- The reference's value,with,matches. -/
import Derived.Test.YtdheandekcpieaaGreatDoorAbsBun
import Derived.Test.YtdheandekcpieaaGreatDoorAMF
namespace Go.Abs.Events
open Go Go.Abs
set_option linter.unusedSimpArgs false
set_option linter.unusedVariables false
theorem xLb {t : Int} (ht : 0 ≤ t ∧ t ≤ 10) {a : Nat} (ha : a < 512) : L.pcall 70 [.int .i64 t,.int .i64 (a : Nat)] = some (.int .i64 (tvs t a)) := by
 unfold tvs tv
 by_cases c8 : t = 8
 ·subst c8
  have h : ((a : Nat) : Int).tdiv 64 = ((a / 64 : Nat) : Int) := by rw [Int.tdiv_eq_ediv_of_nonneg (by omega)]; omega
  rw [yDg,a70,xAa]
  simp (disch := omega) only [WB,Nat.reduceAdd,Nat.reduceSub,↓reduceIte,h]
  try rfl
 by_cases c9 : t = 9
 ·subst c9
  have h : ((a : Nat) : Int).tdiv 8 = ((a / 8 : Nat) : Int) := by rw [Int.tdiv_eq_ediv_of_nonneg (by omega)]; omega
  have h2 : ((a / 8 : Nat) : Int).tmod 8 = ((a / 8 % 8 : Nat) : Int) := by rw [Int.tmod_eq_emod_of_nonneg (by omega)]; omega
  rw [yDg,a70,xAa]
  simp (disch := omega) only [WB,Nat.reduceAdd,Nat.reduceSub,Int.reduceEq,↓reduceIte,h,h2,Int.reduceLT]
  try rfl
 by_cases c10 : t = 10
 ·subst c10
  have h2 : ((a : Nat) : Int).tmod 8 = ((a % 8 : Nat) : Int) := by rw [Int.tmod_eq_emod_of_nonneg (by omega)]; omega
  rw [yDg,a70,xAa]
  simp (disch := omega) only [WB,Nat.reduceAdd,Nat.reduceSub,Int.reduceEq,↓reduceIte,h2,Int.reduceLT]
  try rfl
 have hlt : t < 8 := by omega
 rw [yDg,a70,xAa]
 simp (disch := omega) only [WB,Nat.reduceAdd,Nat.reduceSub,c8,↓reduceIte,c9,c10,hlt]
def wth (x a v : Nat) : Nat := if x = 8 then v * 64 + a % 64 else if x = 9 then a / 64 * 64 + v * 8 + a % 8 else a / 8 * 8 + v
theorem yCZ {x a v : Nat} (hx : x = 8 ∨ x = 9 ∨ x = 10) (ha : a < 512) (hv : v < 8) : L.pcall 71 [.int .i64 (a : Nat),.int .i64 (x : Nat),.int .i64 (v : Nat)] = some (.int .i64 (wth x a v : Nat)) := by
 have h64 := xLb (t := ((x : Nat) : Int)) (by omega) ha
 rcases hx with rfl | rfl | rfl
 ·have h64 : L.pcall 70 [.int .i64 8,.int .i64 (a : Nat)] = some (.int .i64 ((a / 64 : Nat) : Int)) := h64
  have hw : (a : Int) + (((v : Nat) : Int) - ((a / 64 : Nat) : Int)) * 64 = ((wth 8 a v : Nat) : Int) := by
   show _ = ((v * 64 + a % 64 : Nat) : Int); omega
  have hm : IntKind.i64.wrap ((((v : Nat) : Int) - ((a / 64 : Nat) : Int)) * 64) = (((v : Nat) : Int) - ((a / 64 : Nat) : Int)) * 64 := xZo (by omega) (by omega)
  have hs : IntKind.i64.wrap (((v : Nat) : Int) - ((a / 64 : Nat) : Int)) = ((v : Nat) : Int) - ((a / 64 : Nat) : Int) := xZo (by omega) (by omega)
  have hb : wth 8 a v < 1000 := by show v * 64 + a % 64 < 1000; omega
  rw [yD2,a71,xAa]
  simp (disch := first | assumption | omega | rfl | decide) only [WB,Nat.reduceAdd,Nat.reduceSub,AV.cells,↓reduceIte,Nat.reduceLeDiff,AV.isCell,Int.reduceSub,h64,xAA,xAm]
  rw [hw]
 ·have h64 : L.pcall 70 [.int .i64 9,.int .i64 (a : Nat)] = some (.int .i64 ((a / 8 % 8 : Nat) : Int)) := h64
  have hw : (a : Int) + (((v : Nat) : Int) - ((a / 8 % 8 : Nat) : Int)) * 8 = ((wth 9 a v : Nat) : Int) := by
   show _ = ((a / 64 * 64 + v * 8 + a % 8 : Nat) : Int); omega
  have hm : IntKind.i64.wrap ((((v : Nat) : Int) - ((a / 8 % 8 : Nat) : Int)) * 8) = (((v : Nat) : Int) - ((a / 8 % 8 : Nat) : Int)) * 8 := xZo (by omega) (by omega)
  have hs : IntKind.i64.wrap (((v : Nat) : Int) - ((a / 8 % 8 : Nat) : Int)) = ((v : Nat) : Int) - ((a / 8 % 8 : Nat) : Int) := xZo (by omega) (by omega)
  have hb : wth 9 a v < 1000 := by show a / 64 * 64 + v * 8 + a % 8 < 1000; omega
  rw [yD2,a71,xAa]
  simp (disch := first | assumption | omega | rfl | decide) only [WB,Nat.reduceAdd,Nat.reduceSub,AV.cells,↓reduceIte,Nat.reduceLeDiff,AV.isCell,Int.reduceSub,h64,xAA,xAm]
  rw [hw]
 ·have h64 : L.pcall 70 [.int .i64 10,.int .i64 (a : Nat)] = some (.int .i64 ((a % 8 : Nat) : Int)) := h64
  have hw : (a : Int) + (((v : Nat) : Int) - ((a % 8 : Nat) : Int)) = ((wth 10 a v : Nat) : Int) := by
   show _ = ((a / 8 * 8 + v : Nat) : Int); omega
  have hs : IntKind.i64.wrap (((v : Nat) : Int) - ((a % 8 : Nat) : Int)) = ((v : Nat) : Int) - ((a % 8 : Nat) : Int) := xZo (by omega) (by omega)
  have hb : wth 10 a v < 1000 := by show a / 8 * 8 + v < 1000; omega
  have hm : (((v : Nat) : Int) - ((a % 8 : Nat) : Int)) * 1 = ((v : Nat) : Int) - ((a % 8 : Nat) : Int) := Int.mul_one _
  rw [yD2,a71,xAa]
  simp (disch := first | assumption | omega | rfl | decide) only [WB,Nat.reduceAdd,Nat.reduceSub,AV.cells,↓reduceIte,Nat.reduceLeDiff,AV.isCell,Int.reduceSub,Int.reduceToNat,h64,xAA,xAm]
  rw [hm,hw]
section
variable {n : Nd} {e : Ev} {G : Heap} {p q a : Nat}
set_option maxHeartbeats 2000000 in
theorem yC0 (hz : n.args.length = e.args.length) (h2 : n.args.length ≤ 100) (hok : ∀ t ∈ n.args,0 ≤ t ∧ t ≤ 10) (ha : a < 512) (gp : G[p]? = some (.cells false false n.c)) (gq : G[q]? = some (.cells false false (evC e))) : ∀ k i,i + k = n.args.length → ∃ i' : Nat,
  L.loop xJY xT8 ⟨xHR (.int .i64 (a : Nat)) (.ptr p 0) (.ptr q 0) (.bool false) (.int .i64 (i : Nat)),G⟩ =
   some (if mat a (n.args.drop i) (e.args.drop i) = true then (.exit 0,⟨xHR (.int .i64 (a : Nat)) (.ptr p 0) (.ptr q 0) (.bool false) (.int .i64 (i' : Nat)),G⟩)
    else (.ret,⟨xHR (.int .i64 (a : Nat)) (.ptr p 0) (.ptr q 0) (.bool false) (.int .i64 (i' : Nat)),G⟩)) := by
 have hnv : xA2 n.z n.args = .sl n.z n.args.length (xAB n.args) := rfl
 have hev : xA2 e.z e.args = .sl e.z e.args.length (xAB e.args) := rfl
 unfold Nd.c at gp
 unfold evC at gq
 rw [hnv] at gp
 rw [hev] at gq
 intro k
 induction k with
 | zero =>
  intro i hi
  obtain rfl : i = n.args.length := by omega
  refine ⟨n.args.length,?_⟩
  rw [if_pos (by rw [List.drop_length]; rfl),xT9]
  simp (maxSteps := 30000000) (disch := first|exact D5|fail) only [xM2,WB,gp,↓reduceIte,xM3]
 | succ k ih =>
  intro i hi
  have hlt : (i : Int) < (n.args.length : Nat) := by omega
  have hl1 : i < n.args.length := by omega
  have hl2 : i < e.args.length := by omega
  obtain ⟨i',ih'⟩ := ih (i + 1) (by omega)
  have hm : n.args.getD i 0 ∈ n.args := by rw [List.getD_eq_getElem?_getD,List.getElem?_eq_getElem hl1]; exact List.getElem_mem hl1
  have hv := xLb (hok _ hm) ha
  have em : mat a (n.args.drop i) (e.args.drop i) = (tvs (n.args.getD i 0) a == e.args.getD i 0 && mat a (n.args.drop (i + 1)) (e.args.drop (i + 1))) := by
   rw [List.drop_eq_getElem_cons hl1,List.drop_eq_getElem_cons hl2]
   show (tvs _ _ == _ && _) = _
   rw [List.getD_eq_getElem?_getD,List.getElem?_eq_getElem hl1,List.getD_eq_getElem?_getD,List.getElem?_eq_getElem hl2]
   rfl
  rw [em]
  generalize hN : n.args.getD i 0 = t at *
  generalize hE : e.args.getD i 0 = v at *
  generalize tvs t a = w at *
  by_cases c1 : w = v
  ·have cb : (w == v) = true := by simpa using c1
   simp only [cb,Bool.true_and]
   refine ⟨i',?_⟩
   rw [xT9]
   simp (maxSteps := 30000000) (disch := first|exact D5|fail) only [xM2,WB,gp,hlt,↓reduceIte,W2,hN,hv,c1,xAA,xAm,gq,hE,xAn,xM3,ih']
  ·have cb : (w == v) = false := by simpa using c1
   simp only [cb,Bool.false_and,Bool.false_eq_true,if_false]
   refine ⟨i,?_⟩
   rw [xT9]
   simp (maxSteps := 30000000) (disch := first|exact D5|fail) only [xM2,WB,gp,hlt,↓reduceIte,W2,hN,hv,xAA,xAm,gq,hE,xAn,c1,xM3]
end
def rl (q : Q) : List Bool := (List.range 512).map q
theorem xA3 (q : Q) : (rl q).length = 512 := by simp [rl]
theorem yES (q : Q) {i : Nat} (h : i < 512) : (rl q).getD i false = q i := by
 unfold rl
 rw [List.getD_eq_getElem?_getD,List.getElem?_map,List.getElem?_range h]; rfl
section
variable {q : Q} {z : Bool} {ob : Nat} {s0 s1 s5 s8 s9 s10 s11 : AV}
end
theorem xYl {x a v : Nat} (ha : a < 512) (hv : v < 8) : wth x a v < 512 := by
 unfold wth
 split
 ·omega
 ·split <;> omega
theorem yC1 {x a v : Nat} (hx : x = 8 ∨ x = 9 ∨ x = 10) (ha : a < 512) (hv : v < 8) : kx x (wth x a v) = kx x a := by
 unfold wth kx
 rcases hx with rfl | rfl | rfl <;> simp <;> omega
theorem yC2 {x a s : Nat} (hx : x = 8 ∨ x = 9 ∨ x = 10) (ha : a < 512) (hs : s < 512) (h : kx x a = kx x s) : s = wth x a (dg x s) ∧ dg x s < 8 := by
 refine ⟨?_,yCJ hs⟩
 unfold wth dg
 unfold kx at h
 rcases hx with rfl | rfl | rfl <;> simp at h ⊢ <;> omega
def avQ (x : Nat) (q : Q) (a v : Nat) : Bool := (List.range v).any fun w => q (wth x a w)
theorem yC3 {x a : Nat} (hx : x = 8 ∨ x = 9 ∨ x = 10) (q : Q) (ha : a < 512) : avQ x q a 8 = exQ x q a := by
 unfold avQ exQ oQ
 rw [Bool.eq_iff_iff,List.any_eq_true,List.any_eq_true]
 constructor
 ·rintro ⟨v,hv,h⟩
  have hv := List.mem_range.1 hv
  refine ⟨wth x a v,List.mem_range.2 (xYl ha hv),?_⟩
  rw [yC1 hx ha hv,h]; simp
 ·rintro ⟨s,hs,h⟩
  have hs := List.mem_range.1 hs
  simp only [Bool.and_eq_true,beq_iff_eq] at h
  have := yC2 hx ha hs h.2
  refine ⟨dg x s,List.mem_range.2 this.2,?_⟩
  rw [← this.1]; exact h.1
theorem xXf (x : Nat) (q : Q) (a v : Nat) : avQ x q a (v + 1) = (avQ x q a v || q (wth x a v)) := by
 unfold avQ
 rw [List.range_succ,List.any_append]; simp
def RW (q : Q) : AV := .sl false 512 (bls (rl q))
theorem xDY (q : Q) {i : Nat} (h : i < 512) : List.take 1 (List.drop i (bls (rl q))) = [.bool (q i)] := by
 rw [xDe (by rw [xA3]; exact h),yES q h]
theorem xCz {r : List Bool} {a : Nat} (h : a < r.length) (b : Bool) : List.take a (bls r) ++ (.bool b :: List.drop (a + 1) (bls r)) = bls (r.set a b) := by
 unfold bls
 rw [List.map_set,List.set_eq_take_append_cons_drop,if_pos (by simpa using h)]
section
variable {q : Q} {qs : List Q} {n : Nd} {G : Heap} {ro rb nb a A x : Nat} {r : List Bool} {s0 s1 s5 s9 s10 s11 : AV}
end
set_option maxHeartbeats 2000000 in
theorem xVo {n : Nd} {e : Ev} {a : Nat} (h2 : n.args.length ≤ 100) (hok : ∀ t ∈ n.args,0 ≤ t ∧ t ≤ 10) (ha : a < 512) : L.pcall 69 [.agg n.c,.agg (evC e),.int .i64 (a : Nat)] =
  some (.bool ((if n.name = e.name ∧ n.args.length = e.args.length then fun j => mat j n.args e.args else fQ) a)) := by
 have hnv : xA2 n.z n.args = .sl n.z n.args.length (xAB n.args) := rfl
 have hev : xA2 e.z e.args = .sl e.z e.args.length (xAB e.args) := rfl
 by_cases c1 : n.name = e.name
 ·have d1 := eq_true c1
  by_cases c2 : n.args.length = e.args.length
  ·have d2 : (((n.args.length : Nat) : Int) = (e.args.length : Nat)) = True := eq_true (by omega)
   rw [if_pos ⟨c1,c2⟩]
   obtain ⟨i',e1⟩ := yC0 (n := n) (e := e) (p := 0) (q := 1) (G := [.cells false false n.c,.cells false false (evC e)]) c2 h2 hok ha rfl rfl n.args.length 0 (by omega)
   rw [List.drop_zero,List.drop_zero] at e1
   unfold Nd.c evC at e1 ⊢
   rw [hnv,hev] at e1 ⊢
   have e1' : L.loop xJY xT8 ⟨xHR (.int .i64 (a : Nat)) (.ptr 0 0) (.ptr 1 0) (.bool false) (.int .i64 0),[.cells false false [.int .u8 (n.op : Nat),.int .i64 n.name,.sl n.z n.args.length (xAB n.args),.int .i64 n.x,.int .i64 n.a,.int .i64 n.b],.cells false false [.int .i64 e.name,.sl e.z e.args.length (xAB e.args)]]⟩ = _ := e1
   show _ = some (AV.bool (mat a n.args e.args))
   cases hm : mat a n.args e.args with
   | true =>
    rw [hm] at e1'
    simp only [if_true] at e1'
    rw [yDf,a69,xAa]
    simp (maxSteps := 30000000) (disch := first|exact D5|fail) only [WB,Nat.reduceAdd,Nat.reduceSub,AV.cells,AV.isCell,↓reduceIte,d1,d2,xM3,e1']
   | false =>
    rw [hm] at e1'
    simp only [Bool.false_eq_true,if_false] at e1'
    rw [yDf,a69,xAa]
    simp (maxSteps := 30000000) (disch := first|exact D5|fail) only [WB,Nat.reduceAdd,Nat.reduceSub,AV.cells,AV.isCell,↓reduceIte,d1,d2,xM3,e1']
  ·have d2 : ¬ ((n.args.length : Nat) : Int) = (e.args.length : Nat) := by omega
   rw [if_neg fun q => c2 q.2]
   unfold Nd.c evC
   rw [hnv,hev]
   rw [yDf,a69,xAa]
   simp (maxSteps := 30000000) (disch := first|exact D5|fail) only [WB,Nat.reduceAdd,Nat.reduceSub,AV.cells,AV.isCell,↓reduceIte,d1,d2]
   try rfl
 ·rw [if_neg fun q => c1 q.1]
  unfold Nd.c evC
  rw [hnv,hev]
  rw [yDf,a69,xAa]
  simp (maxSteps := 30000000) (disch := first|exact D5|fail) only [WB,Nat.reduceAdd,Nat.reduceSub,AV.cells,AV.isCell,↓reduceIte,c1]
  try rfl
theorem xDZ {q : Q} {a : Nat} (ha : a < 512) : (rl (xAQ q a)).set a (q a) = rl (xAQ q (a + 1)) := by
 refine List.ext_getElem (by simp [rl]) fun b h1 h2 => ?_
 have hb : b < 512 := by simpa [rl] using h2
 rw [List.getElem_set]
 by_cases e : a = b
 ·subst e
  rw [if_pos rfl]
  simp [rl,xAQ]
 ·rw [if_neg e]
  have h3 : (b < a + 1) = (b < a) := by rw [eq_iff_iff]; omega
  simp [rl,xAQ,h3]
section
variable {n : Nd} {e : Ev} {qs : List Q} {G : Heap} {ro rb nb eb at_ a : Nat} {st : List Nat} {z zf : Bool} {fs : List Nd} {v8 s9 s11 : AV}
end
end Go.Abs.Events
