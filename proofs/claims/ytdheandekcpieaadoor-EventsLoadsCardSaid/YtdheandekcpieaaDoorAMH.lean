/- The reference's bits of a row. -/
import Derived.Test.YtdheandekcpieaaDoorAbsBun
import Derived.Test.YtdheandekcpieaaDoorAMG
namespace Go.Abs.Events
open Go Go.Abs
set_option linter.unusedSimpArgs false
set_option linter.unusedVariables false
def rl (q : Q) : List Bool := (List.range 512).map q
theorem xAS (q : Q) : (rl q).length = 512 := by simp [rl]
theorem yAQ (q : Q) {i : Nat} (h : i < 512) : (rl q).getD i false = q i := by
 unfold rl
 rw [List.getD_eq_getElem?_getD,List.getElem?_map,List.getElem?_range h]; rfl
theorem yCY {f : Nat → Bool} {k : Nat} (h : ∀ j,k ≤ j → f j = false) (n : Nat) : wdN f n < 2 ^ k := by
 refine Nat.lt_pow_two_of_testBit _ fun i hi => ?_
 rw [xBd,h i hi]; simp
theorem xUv (q : Q) {i : Nat} (h : i < 512) (hq : q i = true) : byQ (xAB q i) (i / 8) + 2 ^ (i % 8) = byQ (xAB q (i + 1)) (i / 8) := by
 have hl : byQ (xAB q i) (i / 8) < 2 ^ (i % 8) := by
  unfold byQ
  refine yCY (fun j hj => ?_) 8
  unfold xAB
  have : ¬ 8 * (i / 8) + j < i := by omega
  simp [this]
 have e := Nat.two_pow_add_eq_or_of_lt hl 1
 rw [Nat.mul_one] at e
 rw [Nat.add_comm,e,Nat.or_comm]
 unfold byQ
 rw [xU4 _ (by omega)]
 refine xCN fun j hj => ?_
 unfold xAB
 by_cases e : j = i % 8
 ·subst e
  have h1 : 8 * (i / 8) + i % 8 = i := by omega
  rw [h1,hq]; simp
 ·have h1 : (j == i % 8) = false := by simpa using e
  have h2 : (8 * (i / 8) + j < i + 1) = (8 * (i / 8) + j < i) := by rw [eq_iff_iff]; omega
  simp [h1,h2]
theorem xQb (q : Q) {i b : Nat} (h : b ≠ i / 8 ∨ q i = false) (hb : b < 64) : byQ (xAB q i) b = byQ (xAB q (i + 1)) b := by
 unfold byQ
 refine xCN fun j hj => ?_
 unfold xAB
 by_cases e : 8 * b + j = i
 ·rcases h with h | h
  ·omega
  ·rw [e,h]; simp
 ·have h2 : (8 * b + j < i + 1) = (8 * b + j < i) := by rw [eq_iff_iff]; omega
  simp [h2]
theorem xWf (q : Q) {i : Nat} (h : i < 512) (hq : q i = true) : (bsQ (xAB q i)).set (i / 8) (byQ (xAB q i) (i / 8) + 2 ^ (i % 8)) = bsQ (xAB q (i + 1)) := by
 refine List.ext_getElem (by simp [bsQ]) fun b h1 h2 => ?_
 have hb : b < 64 := by simpa [bsQ] using h2
 rw [List.getElem_set]
 by_cases e : i / 8 = b
 ·subst e
  rw [if_pos rfl,xUv q h hq]
  simp [bsQ]
 ·rw [if_neg e]
  have := xQb q (i := i) (b := b) (.inl fun x => e x.symm) hb
  simpa [bsQ] using this
theorem xYN (q : Q) {i : Nat} (hq : q i = false) : bsQ (xAB q i) = bsQ (xAB q (i + 1)) := by
 unfold bsQ
 exact List.map_congr_left fun b hb => xQb q (.inr hq) (List.mem_range.1 hb)
section
variable {q : Q} {z : Bool} {ob : Nat} {s0 s1 s5 s8 s9 s10 s11 : AV}
set_option maxRecDepth 100000 in
set_option maxHeartbeats 4000000 in
theorem xYO : ∀ k i,i + k = 512 → ∀ G : Heap,G[ob]? = some (.cells false false (bs (bsQ (xAB q i)))) →
  L.loop xJL xTY ⟨xJM s0 s1 s5 s8 s9 s10 s11 (.sl z 512 (bls (rl q))) (.own false ob 0 64 1) (.int .i64 (i : Nat)),G⟩ =
   some (.exit 7,⟨xJM s0 s1 s5 s8 s9 s10 s11 (.sl z 512 (bls (rl q))) (.own false ob 0 64 1) (.int .i64 512),G.set ob (.cells false false (bs (bsQ q)))⟩) := by
 intro k
 induction k with
 | zero =>
  intro i hi G go
  obtain rfl : i = 512 := by omega
  have hall : bsQ (xAB q 512) = bsQ q := xOI fun j h => by simp [xAB,h]
  rw [hall] at go
  have hset : G.set ob (.cells false false (bs (bsQ q))) = G := by
   obtain ⟨hk,hx⟩ := List.getElem?_eq_some_iff.1 go
   rw [← hx,List.set_getElem_self]
  rw [hset,xTZ]
  simp (maxSteps := 30000000) (disch := first | assumption | omega | (simp only [WZ,AV.isCell] <;> omega) | rfl | decide) only [xMS,WB,↓reduceIte,xMT]
  try rfl
 | succ k ih =>
  intro i hi G go
  have hlt : i < 512 := by omega
  have hltI : ((i : Nat) : Int) < 512 := by omega
  have hat := xFZ (l := rl q) (k := i) (by rw [xAS]; omega)
  rw [yAQ q hlt] at hat
  have hrl : (bls (rl q)).length = 512 := by rw [xAF,xAS]
  have lo := xA7 go
  have hb64 := xDk (xAB q i)
  have hd : ((i : Nat) : Int).tdiv 8 = ((i / 8 : Nat) : Int) := by rw [Int.tdiv_eq_ediv_of_nonneg (by omega)]; omega
  have hm : ((i : Nat) : Int).tmod 8 = ((i % 8 : Nat) : Int) := by rw [Int.tmod_eq_emod_of_nonneg (by omega)]; omega
  cases hq : q i with
  | false =>
   rw [hq] at hat
   have e1 := ih (i + 1) (by omega) G (by rw [← xYN q hq]; exact go)
   generalize bls (rl q) = RB at *
   rw [xTZ]
   simp (maxSteps := 30000000) (disch := first | assumption | omega | (simp only [WZ,AV.isCell] <;> omega) | rfl | decide) only [xMS,WB,hltI,↓reduceIte,hat,xMT,e1]
  | true =>
   rw [hq] at hat
   have hs := xWf q hlt hq
   have e1 := ih (i + 1) (by omega) (G.set ob (.cells false false (bs (bsQ (xAB q (i + 1)))))) (xEm lo)
   rw [List.set_set] at e1
   have hby := xU8 (xAB q i) (show i / 8 < 64 by omega)
   have hlt2 : byQ (xAB q i) (i / 8) + 2 ^ (i % 8) < 256 := by rw [xUv q hlt hq]; exact xXH _ _
   have h8 : i / 8 < 64 := by omega
   have h8I : ((i / 8 : Nat) : Int) < 64 := by omega
   have hsh : IntKind.u8.wrap (1 * 2 ^ min (i % 8) IntKind.u8.bits) = ((2 ^ (i % 8) : Nat) : Int) := by
    have e : min (i % 8) IntKind.u8.bits = i % 8 := Nat.min_eq_left (by show _ ≤ 8; omega)
    rw [e,Int.one_mul]
    have h2 : 2 ^ (i % 8) < 256 := Nat.lt_of_lt_of_le (Nat.pow_lt_pow_right (by omega) (show i % 8 < 8 by omega)) (Nat.le_refl _)
    have : ((2 : Int) ^ (i % 8)) = ((2 ^ (i % 8) : Nat) : Int) := by simp
    rw [this,IntKind.wrap_u8]
    generalize 2 ^ (i % 8) = pw at *
    omega
   generalize bls (rl q) = RB at *
   generalize bsQ (xAB q (i + 1)) = B2 at *
   generalize hB1 : bsQ (xAB q i) = B1 at *
   generalize byQ (xAB q i) (i / 8) = y at *
   generalize 2 ^ (i % 8) = pw at *
   have hadd : IntKind.u8.wrap (((y : Nat) : Int) + ((pw : Nat) : Int)) = ((y + pw : Nat) : Int) := by rw [IntKind.wrap_u8]; omega
   rw [xTZ]
   simp (maxSteps := 30000000) (disch := first | assumption | omega | (simp only [WZ,AV.isCell] <;> omega) | rfl | decide) only [xMS,WB,hltI,↓reduceIte,hat,hd,go,hby,xAh,hm,hsh,AV.cells,hs,xMT,e1]
end
theorem xXv {x a v : Nat} (ha : a < 512) (hv : v < 8) : wth x a v < 512 := by
 unfold wth
 split
 ·omega
 ·split <;> omega
theorem yAR {x a v : Nat} (hx : x = 8 ∨ x = 9 ∨ x = 10) (ha : a < 512) (hv : v < 8) : kx x (wth x a v) = kx x a := by
 unfold wth kx
 rcases hx with rfl | rfl | rfl <;> simp <;> omega
theorem yAS {x a s : Nat} (hx : x = 8 ∨ x = 9 ∨ x = 10) (ha : a < 512) (hs : s < 512) (h : kx x a = kx x s) : s = wth x a (dg x s) ∧ dg x s < 8 := by
 refine ⟨?_,yBD hs⟩
 unfold wth dg
 unfold kx at h
 rcases hx with rfl | rfl | rfl <;> simp at h ⊢ <;> omega
def avQ (x : Nat) (q : Q) (a v : Nat) : Bool := (List.range v).any fun w => q (wth x a w)
theorem yAT {x a : Nat} (hx : x = 8 ∨ x = 9 ∨ x = 10) (q : Q) (ha : a < 512) : avQ x q a 8 = exQ x q a := by
 unfold avQ exQ oQ
 rw [Bool.eq_iff_iff,List.any_eq_true,List.any_eq_true]
 constructor
 ·rintro ⟨v,hv,h⟩
  have hv := List.mem_range.1 hv
  refine ⟨wth x a v,List.mem_range.2 (xXv ha hv),?_⟩
  rw [yAR hx ha hv,h]; simp
 ·rintro ⟨s,hs,h⟩
  have hs := List.mem_range.1 hs
  simp only [Bool.and_eq_true,beq_iff_eq] at h
  have := yAS hx ha hs h.2
  refine ⟨dg x s,List.mem_range.2 this.2,?_⟩
  rw [← this.1]; exact h.1
theorem xWg (x : Nat) (q : Q) (a v : Nat) : avQ x q a (v + 1) = (avQ x q a v || q (wth x a v)) := by
 unfold avQ
 rw [List.range_succ,List.any_append]; simp
def RW (q : Q) : AV := .sl false 512 (bls (rl q))
def rws (qs : List Q) : List AV := qs.map RW
theorem xCM (qs : List Q) : (rws qs).length = qs.length := by simp [rws]
theorem xDV {qs : List Q} {k : Nat} (h : k < qs.length) : List.take 1 (List.drop k (rws qs)) = [RW (qs.getD k fQ)] := by
 rw [List.drop_eq_getElem_cons (by simpa [rws] using h),List.take_succ_cons,List.take_zero]
 simp [rws,List.getD_eq_getElem?_getD,List.getElem?_eq_getElem h]
theorem xEl (q : Q) {i : Nat} (h : i < 512) : List.take 1 (List.drop i (bls (rl q))) = [.bool (q i)] := by
 rw [xFZ (by rw [xAS]; exact h),yAQ q h]
theorem xCx {r : List Bool} {a : Nat} (h : a < r.length) (b : Bool) : List.take a (bls r) ++ (.bool b :: List.drop (a + 1) (bls r)) = bls (r.set a b) := by
 unfold bls
 rw [List.map_set,List.set_eq_take_append_cons_drop,if_pos (by simpa using h)]
section
variable {q : Q} {qs : List Q} {n : Nd} {G : Heap} {ro rb nb a A x : Nat} {r : List Bool} {s0 s1 s5 s9 s10 s11 : AV}
set_option maxRecDepth 100000 in
set_option maxHeartbeats 4000000 in
theorem xYP (hx : x = 8 ∨ x = 9 ∨ x = 10) (hnx : n.x = (x : Nat)) (hna : n.a = (A : Nat)) (hA : A < qs.length) (hq : qs.getD A fQ = q) (ha : a < 512) (hr : r.length = 512) (hqs : qs.length ≤ 64) (h1 : rb ≠ ro) (h2 : rb ≠ nb) : ∀ k v,v + k = 8 → ∀ G : Heap,
  G[nb]? = some (.cells false false n.c) → G[ro]? = some (.cells false false (rws qs)) → G[rb]? = some (.cells false false (bls (r.set a (avQ x q a v)))) →
  L.loop xJJ xTW ⟨xJK s0 s1 s5 (.own false ro 0 qs.length 1) s9 s10 s11 (.ptr nb 0) (.own false rb 0 512 1) (.int .i64 (a : Nat)) (.int .i64 (v : Nat)),G⟩ =
   some (.exit 5,⟨xJK s0 s1 s5 (.own false ro 0 qs.length 1) s9 s10 s11 (.ptr nb 0) (.own false rb 0 512 1) (.int .i64 (a : Nat)) (.int .i64 8),G.set rb (.cells false false (bls (r.set a (avQ x q a 8))))⟩) := by
 have hnv : xA3 n.z n.args = .sl n.z n.args.length (xAE n.args) := rfl
 intro k
 induction k with
 | zero =>
  intro v hv G gn go gr
  obtain rfl : v = 8 := by omega
  have hset : G.set rb (.cells false false (bls (r.set a (avQ x q a 8)))) = G := by
   obtain ⟨hk,hx⟩ := List.getElem?_eq_some_iff.1 gr
   rw [← hx,List.set_getElem_self]
  rw [hset,xTX]
  simp (maxSteps := 30000000) (disch := first | assumption | omega | (simp only [WZ,AV.isCell] <;> omega) | rfl | decide) only [xMR,WB,↓reduceIte,xPY]
  try rfl
 | succ k ih =>
  intro v hv G gn go gr
  have hvI : ((v : Nat) : Int) < 8 := by omega
  have lr := xA7 gr
  have h65 := yA0 hx ha (show v < 8 by omega)
  have hw := xXv (x := x) ha (show v < 8 by omega)
  have hat := xEl q hw
  have hrl : (bls (rl q)).length = 512 := by rw [xAF,xAS]
  have hro := xDV hA
  rw [hq] at hro
  have hrol := xCM qs
  have hgr := xFZ (l := r.set a (avQ x q a v)) (k := a) (by simp; omega)
  have hga : (r.set a (avQ x q a v)).getD a false = avQ x q a v := by
   rw [List.getD_eq_getElem?_getD,List.getElem?_set_self (by omega)]; rfl
  rw [hga] at hgr
  have hgl : (bls (r.set a (avQ x q a v))).length = 512 := by rw [xAF,List.length_set,hr]
  have hput := xCx (r := r.set a (avQ x q a v)) (a := a) (by simp; omega) (avQ x q a (v + 1))
  rw [List.set_set] at hput
  have e1 := ih (v + 1) (by omega) (G.set rb (.cells false false (bls (r.set a (avQ x q a (v + 1)))))) (by rw [xBO h2]; exact gn) (by rw [xBO h1]; exact go) (xEm lr)
  rw [List.set_set] at e1
  have haI : ((a : Nat) : Int) < 512 := by omega
  have hwI : ((wth x a v : Nat) : Int) < 512 := by omega
  have hAI : ((A : Nat) : Int) < (qs.length : Nat) := by omega
  have hs := xWg x q a v
  unfold Nd.c at gn
  rw [hnv,hnx,hna] at gn
  unfold RW at hro
  generalize wth x a v = w at *
  generalize bls (rl q) = RB at *
  generalize rws qs = RS at *
  generalize avQ x q a (v + 1) = b1 at *
  generalize bls (r.set a b1) = R1 at *
  generalize bls (r.set a (avQ x q a v)) = R0 at *
  cases hb : avQ x q a v with
  | true =>
   rw [hb] at hgr hs
   simp only [Bool.true_or] at hs
   subst hs
   rw [xTX]
   simp (maxSteps := 30000000) (disch := first | assumption | omega | (simp only [WZ,AV.isCell] <;> omega) | rfl | decide) only [xMR,WB,hvI,↓reduceIte,gr,hgr,xAh,AV.cells,hput,xPY,e1]
  | false =>
   rw [hb] at hgr hs
   simp only [Bool.false_or] at hs
   rw [hs] at hput
   rw [xTX]
   simp (maxSteps := 30000000) (disch := first | assumption | omega | (simp only [WZ,AV.isCell] <;> omega) | rfl | decide) only [xMR,WB,hvI,↓reduceIte,gr,hgr,gn,go,hro,h65,xAy,xAl,xAh,hat,AV.cells,hput,xPY,e1]
end
set_option maxHeartbeats 2000000 in
theorem xUw {n : Nd} {e : Ev} {a : Nat} (h2 : n.args.length ≤ 100) (hok : ∀ t ∈ n.args,0 ≤ t ∧ t ≤ 10) (ha : a < 512) : L.pcall 63 [.agg n.c,.agg (evC e),.int .i64 (a : Nat)] =
  some (.bool ((if n.name = e.name ∧ n.args.length = e.args.length then fun j => mat j n.args e.args else fQ) a)) := by
 have hnv : xA3 n.z n.args = .sl n.z n.args.length (xAE n.args) := rfl
 have hev : xA3 e.z e.args = .sl e.z e.args.length (xAE e.args) := rfl
 by_cases c1 : n.name = e.name
 ·have d1 := eq_true c1
  by_cases c2 : n.args.length = e.args.length
  ·have d2 : (((n.args.length : Nat) : Int) = (e.args.length : Nat)) = True := eq_true (by omega)
   rw [if_pos ⟨c1,c2⟩]
   obtain ⟨i',e1⟩ := yA1 (n := n) (e := e) (p := 0) (q := 1) (G := [.cells false false n.c,.cells false false (evC e)]) c2 h2 hok ha rfl rfl n.args.length 0 (by omega)
   rw [List.drop_zero,List.drop_zero] at e1
   unfold Nd.c evC at e1 ⊢
   rw [hnv,hev] at e1 ⊢
   have e1' : L.loop xJ6 xUe ⟨xH0 (.int .i64 (a : Nat)) (.ptr 0 0) (.ptr 1 0) (.bool false) (.int .i64 0),[.cells false false [.int .u8 (n.op : Nat),.int .i64 n.name,.sl n.z n.args.length (xAE n.args),.int .i64 n.x,.int .i64 n.a,.int .i64 n.b],.cells false false [.int .i64 e.name,.sl e.z e.args.length (xAE e.args)]]⟩ = _ := e1
   show _ = some (AV.bool (mat a n.args e.args))
   cases hm : mat a n.args e.args with
   | true =>
    rw [hm] at e1'
    simp only [if_true] at e1'
    rw [yBW,a63,xAb]
    simp (maxSteps := 30000000) (disch := first | assumption | omega | (simp only [WZ,AV.isCell] <;> omega) | rfl | decide) only [WB,Nat.reduceAdd,Nat.reduceSub,AV.cells,AV.isCell,↓reduceIte,d1,d2,xM3,e1']
   | false =>
    rw [hm] at e1'
    simp only [Bool.false_eq_true,if_false] at e1'
    rw [yBW,a63,xAb]
    simp (maxSteps := 30000000) (disch := first | assumption | omega | (simp only [WZ,AV.isCell] <;> omega) | rfl | decide) only [WB,Nat.reduceAdd,Nat.reduceSub,AV.cells,AV.isCell,↓reduceIte,d1,d2,xM3,e1']
  ·have d2 : ¬ ((n.args.length : Nat) : Int) = (e.args.length : Nat) := by omega
   rw [if_neg fun q => c2 q.2]
   unfold Nd.c evC
   rw [hnv,hev]
   rw [yBW,a63,xAb]
   simp (maxSteps := 30000000) (disch := first | assumption | omega | (simp only [WZ,AV.isCell] <;> omega) | rfl | decide) only [WB,Nat.reduceAdd,Nat.reduceSub,AV.cells,AV.isCell,↓reduceIte,d1,d2]
   try rfl
 ·rw [if_neg fun q => c1 q.1]
  unfold Nd.c evC
  rw [hnv,hev]
  rw [yBW,a63,xAb]
  simp (maxSteps := 30000000) (disch := first | assumption | omega | (simp only [WZ,AV.isCell] <;> omega) | rfl | decide) only [WB,Nat.reduceAdd,Nat.reduceSub,AV.cells,AV.isCell,↓reduceIte,c1]
  try rfl
theorem xOu {st : List Nat} {at_ a : Nat} (ha : a < 512) : (qOf ((st.drop at_).take 64)) a = (st.getD (at_ + a / 8) 0).testBit (a % 8) := by
 unfold qOf
 congr 1
 rw [List.getD_eq_getElem?_getD,List.getElem?_take_of_lt (by omega),List.getElem?_drop,← List.getD_eq_getElem?_getD]
theorem xDW {q : Q} {a : Nat} (ha : a < 512) : (rl (xAB q a)).set a (q a) = rl (xAB q (a + 1)) := by
 refine List.ext_getElem (by simp [rl]) fun b h1 h2 => ?_
 have hb : b < 512 := by simpa [rl] using h2
 rw [List.getElem_set]
 by_cases e : a = b
 ·subst e
  rw [if_pos rfl]
  simp [rl,xAB]
 ·rw [if_neg e]
  have h3 : (b < a + 1) = (b < a) := by rw [eq_iff_iff]; omega
  simp [rl,xAB,h3]
theorem yCZ {w k : Nat} (hw : w < 256) : decide ((((w : Nat) : Int).fdiv (2 ^ k)).tmod 2 = 1) = w.testBit k := by
 have e1 : ((w : Nat) : Int).fdiv (2 ^ k) = ((w / 2 ^ k : Nat) : Int) := by
  have : ((2 : Int) ^ k) = ((2 ^ k : Nat) : Int) := by simp
  rw [this,Int.fdiv_eq_ediv_of_nonneg _ (Int.natCast_nonneg _)]
  exact (Int.natCast_ediv _ _).symm
 rw [e1,Int.tmod_eq_emod_of_nonneg (Int.natCast_nonneg _),Nat.testBit_eq_decide_div_mod_eq]
 generalize w / 2 ^ k = m
 congr 1
 rw [eq_iff_iff]; omega
section
variable {n : Nd} {e : Ev} {qs : List Q} {G : Heap} {ro rb nb eb at_ a : Nat} {st : List Nat} {z zf : Bool} {fs : List Nd} {v8 s9 s11 : AV}
abbrev xGH (zf : Bool) (fs : List Nd) (z : Bool) (st : List Nat) (eb : Nat) (v8 s9 : AV) (at_ : Nat) (s11 : AV) (nb rb a : Nat) : List AV := xHT (.sl zf fs.length (nds fs)) (.sl z st.length (bs st)) (.ptr eb 0) v8 s9 (.int .i64 (at_ : Nat)) s11 (.ptr nb 0) (.own false rb 0 512 1) (.int .i64 (a : Nat))
set_option maxRecDepth 100000 in
set_option maxHeartbeats 8000000 in
theorem xRh (hv : Vn qs.length n) (ho : n.op = 1) (hlen : qs.length ≤ 64) (ha : a < 512) (gn : G[nb]? = some (.cells false false n.c)) (ge : G[eb]? = some (.cells false false (evC e))) (hro : True) (h1 : rb ≠ ro) (h2 : rb ≠ nb)
  (hst : True) (hb : ∀ x ∈ st,x < 256)
  (gr : G[rb]? = some (.cells false false (bls (rl (xAB (evN n e qs fQ) a))))) :
  L.loop xA5 xBW ⟨xGH zf fs z st eb v8 s9 at_ s11 nb rb a,G⟩ = L.loop xA5 xBW ⟨xGH zf fs z st eb v8 s9 at_ s11 nb rb (a + 1),G.set rb (.cells false false (bls (rl (xAB (evN n e qs fQ) (a + 1)))))⟩ := by
 have haI : ((a : Nat) : Int) < 512 := by omega
 have hrl : (bls (rl (xAB (evN n e qs fQ) a))).length = 512 := by rw [xAF,xAS]
 have hput := xCx (r := rl (xAB (evN n e qs fQ) a)) (a := a) (by rw [xAS]; exact ha) (evN n e qs fQ a)
 rw [xDW ha] at hput
 have hnv : xA3 n.z n.args = .sl n.z n.args.length (xAE n.args) := rfl
 have hev : xA3 e.z e.args = .sl e.z e.args.length (xAE e.args) := rfl
 have h61 := xFU n.op
 have ht : tmp n.op = false := by rw [ho]; rfl
 rw [ht,ho] at h61
 have h61 : L.pcall 61 [.int .u8 1] = _ := h61
 have hE : evN n e qs fQ a = true := by unfold evN; rw [if_pos ho]
 rw [hE] at hput
 generalize evN n e qs fQ = q at *
 generalize bls (rl (xAB q (a + 1))) = R1 at *
 generalize bls (rl (xAB q a)) = R0 at *
 unfold Nd.c at gn
 rw [hnv,ho] at gn
 have gn : G[nb]? = some (.cells false false (.int .u8 1 :: _)) := gn
 rw [xCd]
 simp (maxSteps := 30000000) (disch := first | assumption | omega | (simp only [WZ,AV.isCell] <;> omega) | rfl | decide) only [xBY,WB,haI,↓reduceIte,gn,h61,xAy,xAl,AV.cells,gr,hput,xBM]
set_option maxRecDepth 100000 in
set_option maxHeartbeats 8000000 in
theorem xRi (hv : Vn qs.length n) (ho : n.op = 2) (hlen : qs.length ≤ 64) (ha : a < 512) (gn : G[nb]? = some (.cells false false n.c)) (ge : G[eb]? = some (.cells false false (evC e))) (hro : True) (h1 : rb ≠ ro) (h2 : rb ≠ nb)
  (hst : True) (hb : ∀ x ∈ st,x < 256)
  (gr : G[rb]? = some (.cells false false (bls (rl (xAB (evN n e qs fQ) a))))) :
  L.loop xA5 xBW ⟨xGH zf fs z st eb v8 s9 at_ s11 nb rb a,G⟩ = L.loop xA5 xBW ⟨xGH zf fs z st eb v8 s9 at_ s11 nb rb (a + 1),G.set rb (.cells false false (bls (rl (xAB (evN n e qs fQ) (a + 1)))))⟩ := by
 have haI : ((a : Nat) : Int) < 512 := by omega
 have hrl : (bls (rl (xAB (evN n e qs fQ) a))).length = 512 := by rw [xAF,xAS]
 have hput := xCx (r := rl (xAB (evN n e qs fQ) a)) (a := a) (by rw [xAS]; exact ha) (evN n e qs fQ a)
 rw [xDW ha] at hput
 have hnv : xA3 n.z n.args = .sl n.z n.args.length (xAE n.args) := rfl
 have hev : xA3 e.z e.args = .sl e.z e.args.length (xAE e.args) := rfl
 have h61 := xFU n.op
 have ht : tmp n.op = false := by rw [ho]; rfl
 rw [ht,ho] at h61
 have h61 : L.pcall 61 [.int .u8 2] = _ := h61
 have h63 := xUw (n := n) (e := e) hv.al hv.ar ha
 have hE : evN n e qs fQ a = (if n.name = e.name ∧ n.args.length = e.args.length then fun j => mat j n.args e.args else fQ) a := by unfold evN; rw [if_neg (by omega),if_pos ho]
 rw [hE] at hput
 generalize (if n.name = e.name ∧ n.args.length = e.args.length then fun j => mat j n.args e.args else fQ) a = b at *
 unfold Nd.c at h63
 unfold evC at h63 ge
 rw [hnv,hev,ho] at h63
 rw [hev] at ge
 have h63 : L.pcall 63 [.agg [.int .u8 2,.int .i64 n.name,.sl n.z n.args.length (xAE n.args),.int .i64 n.x,.int .i64 n.a,.int .i64 n.b],.agg [.int .i64 e.name,.sl e.z e.args.length (xAE e.args)],.int .i64 (a : Nat)] = _ := h63
 generalize evN n e qs fQ = q at *
 generalize bls (rl (xAB q (a + 1))) = R1 at *
 generalize bls (rl (xAB q a)) = R0 at *
 unfold Nd.c at gn
 rw [hnv,ho] at gn
 have gn : G[nb]? = some (.cells false false (.int .u8 2 :: _)) := gn
 rw [xCd]
 simp (maxSteps := 30000000) (disch := first | assumption | omega | (simp only [WZ,AV.isCell] <;> omega) | rfl | decide) only [xBY,WB,haI,↓reduceIte,gn,h61,xAy,xAl,Int.reduceEq,ge,h63,AV.cells,gr,hput,xBM]
set_option maxRecDepth 100000 in
set_option maxHeartbeats 8000000 in
theorem xRj (hv : Vn qs.length n) (ho : n.op = 3) (hlen : qs.length ≤ 64) (ha : a < 512) (gn : G[nb]? = some (.cells false false n.c)) (ge : G[eb]? = some (.cells false false (evC e))) (hro : True) (h1 : rb ≠ ro) (h2 : rb ≠ nb)
  (hst : True) (hb : ∀ x ∈ st,x < 256)
  (gr : G[rb]? = some (.cells false false (bls (rl (xAB (evN n e qs fQ) a))))) :
  L.loop xA5 xBW ⟨xGH zf fs z st eb v8 s9 at_ s11 nb rb a,G⟩ = L.loop xA5 xBW ⟨xGH zf fs z st eb v8 s9 at_ s11 nb rb (a + 1),G.set rb (.cells false false (bls (rl (xAB (evN n e qs fQ) (a + 1)))))⟩ := by
 have haI : ((a : Nat) : Int) < 512 := by omega
 have hrl : (bls (rl (xAB (evN n e qs fQ) a))).length = 512 := by rw [xAF,xAS]
 have hput := xCx (r := rl (xAB (evN n e qs fQ) a)) (a := a) (by rw [xAS]; exact ha) (evN n e qs fQ a)
 rw [xDW ha] at hput
 have hnv : xA3 n.z n.args = .sl n.z n.args.length (xAE n.args) := rfl
 have hev : xA3 e.z e.args = .sl e.z e.args.length (xAE e.args) := rfl
 have h61 := xFU n.op
 have ht : tmp n.op = false := by rw [ho]; rfl
 rw [ht,ho] at h61
 have h61 : L.pcall 61 [.int .u8 3] = _ := h61
 have hl2 := hv.eq ho
 have m0 : n.args.getD 0 0 ∈ n.args := by rw [List.getD_eq_getElem?_getD,List.getElem?_eq_getElem (by omega)]; exact List.getElem_mem _
 have m1 : n.args.getD 1 0 ∈ n.args := by rw [List.getD_eq_getElem?_getD,List.getElem?_eq_getElem (by omega)]; exact List.getElem_mem _
 have v0 := xK4 (hv.ar _ m0) ha
 have v1 := xK4 (hv.ar _ m1) ha
 have hat0 : xAE (List.take 1 n.args) = [AV.int .i64 (n.args.getD 0 0)] := xGJ (k := 0) (by omega)
 have hat1 : xAE (List.take 1 (List.drop 1 n.args)) = [AV.int .i64 (n.args.getD 1 0)] := xGJ (by omega)
 have hE : evN n e qs fQ a = decide (tvs (n.args.getD 0 0) a = tvs (n.args.getD 1 0) a) := by unfold evN; rw [if_neg (by omega),if_neg (by omega),if_pos ho]; show (_ == _) = _; rw [Bool.eq_iff_iff]; simp
 rw [hE] at hput
 generalize tvs (n.args.getD 0 0) a = t0 at *
 generalize tvs (n.args.getD 1 0) a = t1 at *
 generalize n.args.getD 0 0 = u0 at *
 generalize n.args.getD 1 0 = u1 at *
 rw [hnv,hl2] at hnv
 generalize evN n e qs fQ = q at *
 generalize bls (rl (xAB q (a + 1))) = R1 at *
 generalize bls (rl (xAB q a)) = R0 at *
 unfold Nd.c at gn
 rw [show xA3 n.z n.args = .sl n.z 2 (xAE n.args) by rw [← hl2]; rfl,ho] at gn
 have gn : G[nb]? = some (.cells false false (.int .u8 3 :: _)) := gn
 rw [xCd]
 simp (maxSteps := 30000000) (disch := first | assumption | omega | (simp only [WZ,AV.isCell] <;> omega) | rfl | decide) only [xBY,WB,haI,↓reduceIte,gn,h61,xAy,xAl,Int.reduceEq,W2,hat0,v0,hat1,xAh,v1,AV.cells,gr,hput,xBM]
set_option maxRecDepth 100000 in
set_option maxHeartbeats 8000000 in
theorem xRk (hv : Vn qs.length n) (ho : n.op = 4) (hlen : qs.length ≤ 64) (ha : a < 512) (gn : G[nb]? = some (.cells false false n.c)) (ge : G[eb]? = some (.cells false false (evC e))) (hro : v8 = .own false ro 0 qs.length 1 ∧ G[ro]? = some (.cells false false (rws qs))) (h1 : rb ≠ ro) (h2 : rb ≠ nb)
  (hst : True) (hb : ∀ x ∈ st,x < 256)
  (gr : G[rb]? = some (.cells false false (bls (rl (xAB (evN n e qs fQ) a))))) :
  L.loop xA5 xBW ⟨xGH zf fs z st eb v8 s9 at_ s11 nb rb a,G⟩ = L.loop xA5 xBW ⟨xGH zf fs z st eb v8 s9 at_ s11 nb rb (a + 1),G.set rb (.cells false false (bls (rl (xAB (evN n e qs fQ) (a + 1)))))⟩ := by
 have haI : ((a : Nat) : Int) < 512 := by omega
 have hrl : (bls (rl (xAB (evN n e qs fQ) a))).length = 512 := by rw [xAF,xAS]
 have hput := xCx (r := rl (xAB (evN n e qs fQ) a)) (a := a) (by rw [xAS]; exact ha) (evN n e qs fQ a)
 rw [xDW ha] at hput
 have hnv : xA3 n.z n.args = .sl n.z n.args.length (xAE n.args) := rfl
 have hev : xA3 e.z e.args = .sl e.z e.args.length (xAE e.args) := rfl
 have h61 := xFU n.op
 have ht : tmp n.op = false := by rw [ho]; rfl
 rw [ht,ho] at h61
 have h61 : L.pcall 61 [.int .u8 4] = _ := h61
 obtain ⟨rfl,go⟩ := hro
 have hA := xAD (hv.ca (by rw [ho]; decide))
 have hna := hA.1
 have hra := xDV hA.2
 have haa := xEl (qs.getD n.a.toNat fQ) ha
 have hla : (bls (rl (qs.getD n.a.toNat fQ))).length = 512 := by rw [xAF,xAS]
 have hrol := xCM qs
 unfold RW at hra
 have hE : evN n e qs fQ a = !(qs.getD n.a.toNat fQ) a := by unfold evN; rw [if_neg (by omega),if_neg (by omega),if_neg (by omega),if_pos ho]
 rw [hE] at hput
 generalize evN n e qs fQ = q at *
 generalize bls (rl (xAB q (a + 1))) = R1 at *
 generalize bls (rl (xAB q a)) = R0 at *
 have hAI : ((n.a.toNat : Nat) : Int) < (qs.length : Nat) := by omega
 generalize (qs.getD n.a.toNat fQ) a = x at *
 generalize bls (rl (qs.getD n.a.toNat fQ)) = RA at *
 generalize n.a.toNat = A at *
 generalize rws qs = RS at *
 unfold Nd.c at gn
 rw [hnv,ho,hna] at gn
 have gn : G[nb]? = some (.cells false false (.int .u8 4 :: _)) := gn
 rw [xCd]
 simp (maxSteps := 30000000) (disch := first | assumption | omega | (simp only [WZ,AV.isCell] <;> omega) | rfl | decide) only [xBY,WB,haI,↓reduceIte,gn,h61,xAy,xAl,Int.reduceEq,go,hra,haa,AV.cells,gr,hput,xBM]
set_option maxRecDepth 100000 in
set_option maxHeartbeats 8000000 in
theorem xRl (hv : Vn qs.length n) (ho : n.op = 5) (hlen : qs.length ≤ 64) (ha : a < 512) (gn : G[nb]? = some (.cells false false n.c)) (ge : G[eb]? = some (.cells false false (evC e))) (hro : v8 = .own false ro 0 qs.length 1 ∧ G[ro]? = some (.cells false false (rws qs))) (h1 : rb ≠ ro) (h2 : rb ≠ nb)
  (hst : True) (hb : ∀ x ∈ st,x < 256)
  (gr : G[rb]? = some (.cells false false (bls (rl (xAB (evN n e qs fQ) a))))) :
  L.loop xA5 xBW ⟨xGH zf fs z st eb v8 s9 at_ s11 nb rb a,G⟩ = L.loop xA5 xBW ⟨xGH zf fs z st eb v8 s9 at_ s11 nb rb (a + 1),G.set rb (.cells false false (bls (rl (xAB (evN n e qs fQ) (a + 1)))))⟩ := by
 have haI : ((a : Nat) : Int) < 512 := by omega
 have hrl : (bls (rl (xAB (evN n e qs fQ) a))).length = 512 := by rw [xAF,xAS]
 have hput := xCx (r := rl (xAB (evN n e qs fQ) a)) (a := a) (by rw [xAS]; exact ha) (evN n e qs fQ a)
 rw [xDW ha] at hput
 have hnv : xA3 n.z n.args = .sl n.z n.args.length (xAE n.args) := rfl
 have hev : xA3 e.z e.args = .sl e.z e.args.length (xAE e.args) := rfl
 have h61 := xFU n.op
 have ht : tmp n.op = false := by rw [ho]; rfl
 rw [ht,ho] at h61
 have h61 : L.pcall 61 [.int .u8 5] = _ := h61
 obtain ⟨rfl,go⟩ := hro
 have hA := xAD (hv.ca (by rw [ho]; decide))
 have hna := hA.1
 have hra := xDV hA.2
 have haa := xEl (qs.getD n.a.toNat fQ) ha
 have hla : (bls (rl (qs.getD n.a.toNat fQ))).length = 512 := by rw [xAF,xAS]
 have hrol := xCM qs
 unfold RW at hra
 have hB := xAD (hv.cb (by rw [ho]; decide))
 have hnb := hB.1
 have hrb := xDV hB.2
 have hab := xEl (qs.getD n.b.toNat fQ) ha
 have hlb : (bls (rl (qs.getD n.b.toNat fQ))).length = 512 := by rw [xAF,xAS]
 unfold RW at hrb
 have hE : evN n e qs fQ a = ((qs.getD n.a.toNat fQ) a && (qs.getD n.b.toNat fQ) a) := by unfold evN; rw [if_neg (by omega),if_neg (by omega),if_neg (by omega),if_neg (by omega),if_pos ho]
 rw [hE] at hput
 generalize evN n e qs fQ = q at *
 generalize bls (rl (xAB q (a + 1))) = R1 at *
 generalize bls (rl (xAB q a)) = R0 at *
 have hAI : ((n.a.toNat : Nat) : Int) < (qs.length : Nat) := by omega
 generalize (qs.getD n.a.toNat fQ) a = x at *
 generalize bls (rl (qs.getD n.a.toNat fQ)) = RA at *
 generalize n.a.toNat = A at *
 have hBI : ((n.b.toNat : Nat) : Int) < (qs.length : Nat) := by omega
 generalize (qs.getD n.b.toNat fQ) a = y at *
 generalize bls (rl (qs.getD n.b.toNat fQ)) = RB at *
 generalize n.b.toNat = B at *
 generalize rws qs = RS at *
 unfold Nd.c at gn
 rw [hnv,ho,hna,hnb] at gn
 have gn : G[nb]? = some (.cells false false (.int .u8 5 :: _)) := gn
 cases x with
 | true =>
  simp only [Bool.true_and,Bool.true_or] at hput
  rw [xCd]
  simp (maxSteps := 30000000) (disch := first | assumption | omega | (simp only [WZ,AV.isCell] <;> omega) | rfl | decide) only [xBY,WB,haI,↓reduceIte,gn,h61,xAy,xAl,Int.reduceEq,go,hra,haa,hrb,hab,AV.cells,gr,hput,xBM]
 | false =>
  simp only [Bool.false_and,Bool.false_or] at hput
  rw [xCd]
  simp (maxSteps := 30000000) (disch := first | assumption | omega | (simp only [WZ,AV.isCell] <;> omega) | rfl | decide) only [xBY,WB,haI,↓reduceIte,gn,h61,xAy,xAl,Int.reduceEq,go,hra,haa,AV.cells,gr,hput,xBM]
set_option maxRecDepth 100000 in
set_option maxHeartbeats 8000000 in
theorem xRm (hv : Vn qs.length n) (ho : n.op = 6) (hlen : qs.length ≤ 64) (ha : a < 512) (gn : G[nb]? = some (.cells false false n.c)) (ge : G[eb]? = some (.cells false false (evC e))) (hro : v8 = .own false ro 0 qs.length 1 ∧ G[ro]? = some (.cells false false (rws qs))) (h1 : rb ≠ ro) (h2 : rb ≠ nb)
  (hst : True) (hb : ∀ x ∈ st,x < 256)
  (gr : G[rb]? = some (.cells false false (bls (rl (xAB (evN n e qs fQ) a))))) :
  L.loop xA5 xBW ⟨xGH zf fs z st eb v8 s9 at_ s11 nb rb a,G⟩ = L.loop xA5 xBW ⟨xGH zf fs z st eb v8 s9 at_ s11 nb rb (a + 1),G.set rb (.cells false false (bls (rl (xAB (evN n e qs fQ) (a + 1)))))⟩ := by
 have haI : ((a : Nat) : Int) < 512 := by omega
 have hrl : (bls (rl (xAB (evN n e qs fQ) a))).length = 512 := by rw [xAF,xAS]
 have hput := xCx (r := rl (xAB (evN n e qs fQ) a)) (a := a) (by rw [xAS]; exact ha) (evN n e qs fQ a)
 rw [xDW ha] at hput
 have hnv : xA3 n.z n.args = .sl n.z n.args.length (xAE n.args) := rfl
 have hev : xA3 e.z e.args = .sl e.z e.args.length (xAE e.args) := rfl
 have h61 := xFU n.op
 have ht : tmp n.op = false := by rw [ho]; rfl
 rw [ht,ho] at h61
 have h61 : L.pcall 61 [.int .u8 6] = _ := h61
 obtain ⟨rfl,go⟩ := hro
 have hA := xAD (hv.ca (by rw [ho]; decide))
 have hna := hA.1
 have hra := xDV hA.2
 have haa := xEl (qs.getD n.a.toNat fQ) ha
 have hla : (bls (rl (qs.getD n.a.toNat fQ))).length = 512 := by rw [xAF,xAS]
 have hrol := xCM qs
 unfold RW at hra
 have hB := xAD (hv.cb (by rw [ho]; decide))
 have hnb := hB.1
 have hrb := xDV hB.2
 have hab := xEl (qs.getD n.b.toNat fQ) ha
 have hlb : (bls (rl (qs.getD n.b.toNat fQ))).length = 512 := by rw [xAF,xAS]
 unfold RW at hrb
 have hE : evN n e qs fQ a = ((qs.getD n.a.toNat fQ) a || (qs.getD n.b.toNat fQ) a) := by unfold evN; rw [if_neg (by omega),if_neg (by omega),if_neg (by omega),if_neg (by omega),if_neg (by omega),if_pos ho]
 rw [hE] at hput
 generalize evN n e qs fQ = q at *
 generalize bls (rl (xAB q (a + 1))) = R1 at *
 generalize bls (rl (xAB q a)) = R0 at *
 have hAI : ((n.a.toNat : Nat) : Int) < (qs.length : Nat) := by omega
 generalize (qs.getD n.a.toNat fQ) a = x at *
 generalize bls (rl (qs.getD n.a.toNat fQ)) = RA at *
 generalize n.a.toNat = A at *
 have hBI : ((n.b.toNat : Nat) : Int) < (qs.length : Nat) := by omega
 generalize (qs.getD n.b.toNat fQ) a = y at *
 generalize bls (rl (qs.getD n.b.toNat fQ)) = RB at *
 generalize n.b.toNat = B at *
 generalize rws qs = RS at *
 unfold Nd.c at gn
 rw [hnv,ho,hna,hnb] at gn
 have gn : G[nb]? = some (.cells false false (.int .u8 6 :: _)) := gn
 cases x with
 | true =>
  simp only [Bool.true_and,Bool.true_or] at hput
  rw [xCd]
  simp (maxSteps := 30000000) (disch := first | assumption | omega | (simp only [WZ,AV.isCell] <;> omega) | rfl | decide) only [xBY,WB,haI,↓reduceIte,gn,h61,xAy,xAl,Int.reduceEq,go,hra,haa,AV.cells,gr,hput,xBM]
 | false =>
  simp only [Bool.false_and,Bool.false_or] at hput
  rw [xCd]
  simp (maxSteps := 30000000) (disch := first | assumption | omega | (simp only [WZ,AV.isCell] <;> omega) | rfl | decide) only [xBY,WB,haI,↓reduceIte,gn,h61,xAy,xAl,Int.reduceEq,go,hra,haa,hrb,hab,AV.cells,gr,hput,xBM]
end
section
variable {n : Nd} {e : Ev} {qs : List Q} {G : Heap} {ro rb nb eb at_ a : Nat} {st : List Nat} {z zf : Bool} {fs : List Nd} {v8 s9 s11 : AV}
set_option maxRecDepth 100000 in
set_option maxHeartbeats 8000000 in
theorem xRn (hv : Vn qs.length n) (ho : n.op = 7) (hlen : qs.length ≤ 64) (ha : a < 512) (gn : G[nb]? = some (.cells false false n.c)) (ge : G[eb]? = some (.cells false false (evC e))) (hro : v8 = .own false ro 0 qs.length 1 ∧ G[ro]? = some (.cells false false (rws qs))) (h1 : rb ≠ ro) (h2 : rb ≠ nb)
  (hst : True) (hb : ∀ x ∈ st,x < 256)
  (gr : G[rb]? = some (.cells false false (bls (rl (xAB (evN n e qs fQ) a))))) :
  L.loop xA5 xBW ⟨xGH zf fs z st eb v8 s9 at_ s11 nb rb a,G⟩ = L.loop xA5 xBW ⟨xGH zf fs z st eb v8 s9 at_ s11 nb rb (a + 1),G.set rb (.cells false false (bls (rl (xAB (evN n e qs fQ) (a + 1)))))⟩ := by
 have haI : ((a : Nat) : Int) < 512 := by omega
 have hrl : (bls (rl (xAB (evN n e qs fQ) a))).length = 512 := by rw [xAF,xAS]
 have hput := xCx (r := rl (xAB (evN n e qs fQ) a)) (a := a) (by rw [xAS]; exact ha) (evN n e qs fQ a)
 rw [xDW ha] at hput
 have hnv : xA3 n.z n.args = .sl n.z n.args.length (xAE n.args) := rfl
 have hev : xA3 e.z e.args = .sl e.z e.args.length (xAE e.args) := rfl
 have h61 := xFU n.op
 have ht : tmp n.op = false := by rw [ho]; rfl
 rw [ht,ho] at h61
 have h61 : L.pcall 61 [.int .u8 7] = _ := h61
 obtain ⟨rfl,go⟩ := hro
 have hA := xAD (hv.ca (by rw [ho]; decide))
 have hx := hv.ex ho
 have hE : evN n e qs fQ a = avQ n.x.toNat (qs.getD n.a.toNat fQ) a 8 := by
  unfold evN
  rw [if_neg (by omega),if_neg (by omega),if_neg (by omega),if_neg (by omega),if_neg (by omega),if_neg (by omega),if_pos ho]
  exact (yAT (by omega) _ ha).symm
 have hr0 : (rl (xAB (evN n e qs fQ) a)).set a (avQ n.x.toNat (qs.getD n.a.toNat fQ) a 0) = rl (xAB (evN n e qs fQ) a) := by
  refine List.ext_getElem (by simp) fun b q1 q2 => ?_
  rw [List.getElem_set]
  by_cases c : a = b
  ·subst c
   rw [if_pos rfl]
   simp [rl,xAB,avQ]
  ·rw [if_neg c]
 have e1 := xYP (s0 := .sl zf fs.length (nds fs)) (s1 := .sl z st.length (bs st)) (s5 := .ptr eb 0) (s9 := s9) (s10 := .int .i64 (at_ : Nat)) (s11 := s11) (x := n.x.toNat) (A := n.a.toNat) (r := rl (xAB (evN n e qs fQ) a)) (show n.x.toNat = 8 ∨ n.x.toNat = 9 ∨ n.x.toNat = 10 by omega) (by omega) hA.1 hA.2 rfl ha (xAS _) hlen h1 h2 8 0 rfl G gn go (by rw [hr0]; exact gr)
 have e1' : L.loop xJJ xTW ⟨xJK (.sl zf fs.length (nds fs)) (.sl z st.length (bs st)) (.ptr eb 0) (.own false ro 0 qs.length 1) s9 (.int .i64 (at_ : Nat)) s11 (.ptr nb 0) (.own false rb 0 512 1) (.int .i64 (a : Nat)) (.int .i64 0),G⟩ = _ := e1
 rw [← hE,xDW ha] at e1'
 generalize evN n e qs fQ = q at *
 generalize bls (rl (xAB q (a + 1))) = R1 at *
 generalize bls (rl (xAB q a)) = R0 at *
 unfold Nd.c at gn
 rw [hnv,ho] at gn
 have gn : G[nb]? = some (.cells false false (.int .u8 7 :: _)) := gn
 rw [xCd]
 simp (maxSteps := 30000000) (disch := first | assumption | omega | (simp only [WZ,AV.isCell] <;> omega) | rfl | decide) only [xBY,WB,haI,↓reduceIte,gn,h61,xAy,xAl,Int.reduceEq,xPY,e1',xBM]
set_option maxRecDepth 100000 in
set_option maxHeartbeats 8000000 in
theorem xRo (hv : Vn qs.length n) (ho : n.op = 8) (hlen : qs.length ≤ 64) (ha : a < 512) (gn : G[nb]? = some (.cells false false n.c)) (ge : G[eb]? = some (.cells false false (evC e))) (hro : True) (h1 : rb ≠ ro) (h2 : rb ≠ nb)
  (hst : at_ + 64 ≤ st.length ∧ st.length ≤ 100000) (hb : ∀ x ∈ st,x < 256)
  (gr : G[rb]? = some (.cells false false (bls (rl (xAB (evN n e qs (qOf ((st.drop at_).take 64))) a))))) :
  L.loop xA5 xBW ⟨xGH zf fs z st eb v8 s9 at_ s11 nb rb a,G⟩ = L.loop xA5 xBW ⟨xGH zf fs z st eb v8 s9 at_ s11 nb rb (a + 1),G.set rb (.cells false false (bls (rl (xAB (evN n e qs (qOf ((st.drop at_).take 64))) (a + 1)))))⟩ := by
 have haI : ((a : Nat) : Int) < 512 := by omega
 have hrl : (bls (rl (xAB (evN n e qs (qOf ((st.drop at_).take 64))) a))).length = 512 := by rw [xAF,xAS]
 have hput := xCx (r := rl (xAB (evN n e qs (qOf ((st.drop at_).take 64))) a)) (a := a) (by rw [xAS]; exact ha) (evN n e qs (qOf ((st.drop at_).take 64)) a)
 rw [xDW ha] at hput
 have hnv : xA3 n.z n.args = .sl n.z n.args.length (xAE n.args) := rfl
 have hev : xA3 e.z e.args = .sl e.z e.args.length (xAE e.args) := rfl
 have h61 := xFU n.op
 have ht : tmp n.op = true := by rw [ho]; rfl
 rw [ht,ho] at h61
 have h61 : L.pcall 61 [.int .u8 8] = _ := h61
 have hd : ((a : Nat) : Int).tdiv 8 = ((a / 8 : Nat) : Int) := by rw [Int.tdiv_eq_ediv_of_nonneg (by omega)]; omega
 have hm : ((a : Nat) : Int).tmod 8 = ((a % 8 : Nat) : Int) := by rw [Int.tmod_eq_emod_of_nonneg (by omega)]; omega
 have hmin : min (a % 8) IntKind.u8.bits = a % 8 := Nat.min_eq_left (by show _ ≤ 8; omega)
 have hidx : at_ + a / 8 < st.length := by omega
 have hidxI : ((at_ : Nat) : Int) + ((a / 8 : Nat) : Int) = ((at_ + a / 8 : Nat) : Int) := by omega
 have hbs := xAz st
 have hw256 : st.getD (at_ + a / 8) 0 < 256 := hb _ (by rw [List.getD_eq_getElem?_getD,List.getElem?_eq_getElem hidx]; exact List.getElem_mem hidx)
 have hbv : List.take 1 (List.drop (at_ + a / 8) (bs st)) = [.int .u8 (st.getD (at_ + a / 8) 0 : Nat)] := by
  unfold bs
  rw [List.drop_eq_getElem_cons (by simpa using hidx),List.take_succ_cons,List.take_zero]
  simp [List.getD_eq_getElem?_getD,List.getElem?_eq_getElem hidx]
 have hbit := yCZ (k := a % 8) hw256
 have hrow := xOu (st := st) (at_ := at_) ha
 have hE : evN n e qs (qOf ((st.drop at_).take 64)) a = (qOf ((st.drop at_).take 64)) a := by unfold evN; rw [if_neg (by omega),if_neg (by omega),if_neg (by omega),if_neg (by omega),if_neg (by omega),if_neg (by omega),if_neg (by omega),if_pos ho]
 rw [hE,hrow] at hput
 generalize evN n e qs (qOf ((st.drop at_).take 64)) = q at *
 generalize bls (rl (xAB q (a + 1))) = R1 at *
 generalize bls (rl (xAB q a)) = R0 at *
 clear hbv
 generalize hwv : st.getD (at_ + a / 8) 0 = w at *
 generalize w.testBit (a % 8) = bt at *
 unfold Nd.c at gn
 rw [hnv,ho] at gn
 have gn : G[nb]? = some (.cells false false (.int .u8 8 :: _)) := gn
 rw [xCd]
 simp (maxSteps := 30000000) (disch := first | assumption | omega | (simp only [WZ,AV.isCell] <;> omega) | rfl | decide) only [xBY,WB,haI,↓reduceIte,gn,h61,xAy,xAl,hd,hidxI,hwv,hm,hmin,hbit,Int.reduceEq,AV.cells,gr,hput,xBM]
set_option maxRecDepth 100000 in
set_option maxHeartbeats 8000000 in
theorem xRp (hv : Vn qs.length n) (ho : n.op = 9) (hlen : qs.length ≤ 64) (ha : a < 512) (gn : G[nb]? = some (.cells false false n.c)) (ge : G[eb]? = some (.cells false false (evC e))) (hro : v8 = .own false ro 0 qs.length 1 ∧ G[ro]? = some (.cells false false (rws qs))) (h1 : rb ≠ ro) (h2 : rb ≠ nb)
  (hst : at_ + 64 ≤ st.length ∧ st.length ≤ 100000) (hb : ∀ x ∈ st,x < 256)
  (gr : G[rb]? = some (.cells false false (bls (rl (xAB (evN n e qs (qOf ((st.drop at_).take 64))) a))))) :
  L.loop xA5 xBW ⟨xGH zf fs z st eb v8 s9 at_ s11 nb rb a,G⟩ = L.loop xA5 xBW ⟨xGH zf fs z st eb v8 s9 at_ s11 nb rb (a + 1),G.set rb (.cells false false (bls (rl (xAB (evN n e qs (qOf ((st.drop at_).take 64))) (a + 1)))))⟩ := by
 have haI : ((a : Nat) : Int) < 512 := by omega
 have hrl : (bls (rl (xAB (evN n e qs (qOf ((st.drop at_).take 64))) a))).length = 512 := by rw [xAF,xAS]
 have hput := xCx (r := rl (xAB (evN n e qs (qOf ((st.drop at_).take 64))) a)) (a := a) (by rw [xAS]; exact ha) (evN n e qs (qOf ((st.drop at_).take 64)) a)
 rw [xDW ha] at hput
 have hnv : xA3 n.z n.args = .sl n.z n.args.length (xAE n.args) := rfl
 have hev : xA3 e.z e.args = .sl e.z e.args.length (xAE e.args) := rfl
 have h61 := xFU n.op
 have ht : tmp n.op = true := by rw [ho]; rfl
 rw [ht,ho] at h61
 have h61 : L.pcall 61 [.int .u8 9] = _ := h61
 have hd : ((a : Nat) : Int).tdiv 8 = ((a / 8 : Nat) : Int) := by rw [Int.tdiv_eq_ediv_of_nonneg (by omega)]; omega
 have hm : ((a : Nat) : Int).tmod 8 = ((a % 8 : Nat) : Int) := by rw [Int.tmod_eq_emod_of_nonneg (by omega)]; omega
 have hmin : min (a % 8) IntKind.u8.bits = a % 8 := Nat.min_eq_left (by show _ ≤ 8; omega)
 have hidx : at_ + a / 8 < st.length := by omega
 have hidxI : ((at_ : Nat) : Int) + ((a / 8 : Nat) : Int) = ((at_ + a / 8 : Nat) : Int) := by omega
 have hbs := xAz st
 have hw256 : st.getD (at_ + a / 8) 0 < 256 := hb _ (by rw [List.getD_eq_getElem?_getD,List.getElem?_eq_getElem hidx]; exact List.getElem_mem hidx)
 have hbv : List.take 1 (List.drop (at_ + a / 8) (bs st)) = [.int .u8 (st.getD (at_ + a / 8) 0 : Nat)] := by
  unfold bs
  rw [List.drop_eq_getElem_cons (by simpa using hidx),List.take_succ_cons,List.take_zero]
  simp [List.getD_eq_getElem?_getD,List.getElem?_eq_getElem hidx]
 have hbit := yCZ (k := a % 8) hw256
 have hrow := xOu (st := st) (at_ := at_) ha
 obtain ⟨rfl,go⟩ := hro
 have hA := xAD (hv.ca (by rw [ho]; decide))
 have hna := hA.1
 have hra := xDV hA.2
 have haa := xEl (qs.getD n.a.toNat fQ) ha
 have hla : (bls (rl (qs.getD n.a.toNat fQ))).length = 512 := by rw [xAF,xAS]
 have hrol := xCM qs
 unfold RW at hra
 have hB := xAD (hv.cb (by rw [ho]; decide))
 have hnb := hB.1
 have hrb := xDV hB.2
 have hab := xEl (qs.getD n.b.toNat fQ) ha
 have hlb : (bls (rl (qs.getD n.b.toNat fQ))).length = 512 := by rw [xAF,xAS]
 unfold RW at hrb
 have hE : evN n e qs (qOf ((st.drop at_).take 64)) a = ((qs.getD n.b.toNat fQ) a || ((qs.getD n.a.toNat fQ) a && (qOf ((st.drop at_).take 64)) a)) := by unfold evN; rw [if_neg (by omega),if_neg (by omega),if_neg (by omega),if_neg (by omega),if_neg (by omega),if_neg (by omega),if_neg (by omega),if_neg (by omega),if_pos ho]
 rw [hE,hrow] at hput
 generalize evN n e qs (qOf ((st.drop at_).take 64)) = q at *
 generalize bls (rl (xAB q (a + 1))) = R1 at *
 generalize bls (rl (xAB q a)) = R0 at *
 clear hbv
 generalize hwv : st.getD (at_ + a / 8) 0 = w at *
 generalize w.testBit (a % 8) = bt at *
 have hAI : ((n.a.toNat : Nat) : Int) < (qs.length : Nat) := by omega
 generalize (qs.getD n.a.toNat fQ) a = x at *
 generalize bls (rl (qs.getD n.a.toNat fQ)) = RA at *
 generalize n.a.toNat = A at *
 have hBI : ((n.b.toNat : Nat) : Int) < (qs.length : Nat) := by omega
 generalize (qs.getD n.b.toNat fQ) a = y at *
 generalize bls (rl (qs.getD n.b.toNat fQ)) = RB at *
 generalize n.b.toNat = B at *
 generalize rws qs = RS at *
 unfold Nd.c at gn
 rw [hnv,ho,hna,hnb] at gn
 have gn : G[nb]? = some (.cells false false (.int .u8 9 :: _)) := gn
 cases y with
 | true =>
  simp only [Bool.true_or] at hput
  rw [xCd]
  simp (maxSteps := 30000000) (disch := first | assumption | omega | (simp only [WZ,AV.isCell] <;> omega) | rfl | decide) only [xBY,WB,haI,↓reduceIte,gn,h61,xAy,xAl,hd,hidxI,hwv,hm,hmin,hbit,Int.reduceEq,go,hrb,hab,AV.cells,gr,hput,xBM]
 | false =>
  cases x with
  | true =>
   simp only [Bool.false_or,Bool.true_and] at hput
   rw [xCd]
   simp (maxSteps := 30000000) (disch := first | assumption | omega | (simp only [WZ,AV.isCell] <;> omega) | rfl | decide) only [xBY,WB,haI,↓reduceIte,gn,h61,xAy,xAl,hd,hidxI,hwv,hm,hmin,hbit,Int.reduceEq,go,hrb,hab,hra,haa,AV.cells,gr,hput,xBM]
  | false =>
   simp only [Bool.false_or,Bool.false_and] at hput
   rw [xCd]
   simp (maxSteps := 30000000) (disch := first | assumption | omega | (simp only [WZ,AV.isCell] <;> omega) | rfl | decide) only [xBY,WB,haI,↓reduceIte,gn,h61,xAy,xAl,hd,hidxI,hwv,hm,hmin,hbit,Int.reduceEq,go,hrb,hab,hra,haa,AV.cells,gr,hput,xBM]
set_option maxRecDepth 100000 in
set_option maxHeartbeats 8000000 in
theorem xOv (hv : Vn qs.length n) (ho : n.op = 10) (hlen : qs.length ≤ 64) (ha : a < 512) (gn : G[nb]? = some (.cells false false n.c)) (ge : G[eb]? = some (.cells false false (evC e))) (hro : v8 = .own false ro 0 qs.length 1 ∧ G[ro]? = some (.cells false false (rws qs))) (h1 : rb ≠ ro) (h2 : rb ≠ nb)
  (hst : at_ + 64 ≤ st.length ∧ st.length ≤ 100000) (hb : ∀ x ∈ st,x < 256)
  (gr : G[rb]? = some (.cells false false (bls (rl (xAB (evN n e qs (qOf ((st.drop at_).take 64))) a))))) :
  L.loop xA5 xBW ⟨xGH zf fs z st eb v8 s9 at_ s11 nb rb a,G⟩ = L.loop xA5 xBW ⟨xGH zf fs z st eb v8 s9 at_ s11 nb rb (a + 1),G.set rb (.cells false false (bls (rl (xAB (evN n e qs (qOf ((st.drop at_).take 64))) (a + 1)))))⟩ := by
 have haI : ((a : Nat) : Int) < 512 := by omega
 have hrl : (bls (rl (xAB (evN n e qs (qOf ((st.drop at_).take 64))) a))).length = 512 := by rw [xAF,xAS]
 have hput := xCx (r := rl (xAB (evN n e qs (qOf ((st.drop at_).take 64))) a)) (a := a) (by rw [xAS]; exact ha) (evN n e qs (qOf ((st.drop at_).take 64)) a)
 rw [xDW ha] at hput
 have hnv : xA3 n.z n.args = .sl n.z n.args.length (xAE n.args) := rfl
 have hev : xA3 e.z e.args = .sl e.z e.args.length (xAE e.args) := rfl
 have h61 := xFU n.op
 have ht : tmp n.op = true := by rw [ho]; rfl
 rw [ht,ho] at h61
 have h61 : L.pcall 61 [.int .u8 10] = _ := h61
 have hd : ((a : Nat) : Int).tdiv 8 = ((a / 8 : Nat) : Int) := by rw [Int.tdiv_eq_ediv_of_nonneg (by omega)]; omega
 have hm : ((a : Nat) : Int).tmod 8 = ((a % 8 : Nat) : Int) := by rw [Int.tmod_eq_emod_of_nonneg (by omega)]; omega
 have hmin : min (a % 8) IntKind.u8.bits = a % 8 := Nat.min_eq_left (by show _ ≤ 8; omega)
 have hidx : at_ + a / 8 < st.length := by omega
 have hidxI : ((at_ : Nat) : Int) + ((a / 8 : Nat) : Int) = ((at_ + a / 8 : Nat) : Int) := by omega
 have hbs := xAz st
 have hw256 : st.getD (at_ + a / 8) 0 < 256 := hb _ (by rw [List.getD_eq_getElem?_getD,List.getElem?_eq_getElem hidx]; exact List.getElem_mem hidx)
 have hbv : List.take 1 (List.drop (at_ + a / 8) (bs st)) = [.int .u8 (st.getD (at_ + a / 8) 0 : Nat)] := by
  unfold bs
  rw [List.drop_eq_getElem_cons (by simpa using hidx),List.take_succ_cons,List.take_zero]
  simp [List.getD_eq_getElem?_getD,List.getElem?_eq_getElem hidx]
 have hbit := yCZ (k := a % 8) hw256
 have hrow := xOu (st := st) (at_ := at_) ha
 obtain ⟨rfl,go⟩ := hro
 have hA := xAD (hv.ca (by rw [ho]; decide))
 have hna := hA.1
 have hra := xDV hA.2
 have haa := xEl (qs.getD n.a.toNat fQ) ha
 have hla : (bls (rl (qs.getD n.a.toNat fQ))).length = 512 := by rw [xAF,xAS]
 have hrol := xCM qs
 unfold RW at hra
 have hE : evN n e qs (qOf ((st.drop at_).take 64)) a = ((qs.getD n.a.toNat fQ) a || (qOf ((st.drop at_).take 64)) a) := by unfold evN; rw [if_neg (by omega),if_neg (by omega),if_neg (by omega),if_neg (by omega),if_neg (by omega),if_neg (by omega),if_neg (by omega),if_neg (by omega),if_neg (by omega)]
 rw [hE,hrow] at hput
 generalize evN n e qs (qOf ((st.drop at_).take 64)) = q at *
 generalize bls (rl (xAB q (a + 1))) = R1 at *
 generalize bls (rl (xAB q a)) = R0 at *
 clear hbv
 generalize hwv : st.getD (at_ + a / 8) 0 = w at *
 generalize w.testBit (a % 8) = bt at *
 have hAI : ((n.a.toNat : Nat) : Int) < (qs.length : Nat) := by omega
 generalize (qs.getD n.a.toNat fQ) a = x at *
 generalize bls (rl (qs.getD n.a.toNat fQ)) = RA at *
 generalize n.a.toNat = A at *
 generalize rws qs = RS at *
 unfold Nd.c at gn
 rw [hnv,ho,hna] at gn
 have gn : G[nb]? = some (.cells false false (.int .u8 10 :: _)) := gn
 cases x with
 | true =>
  simp only [Bool.true_or] at hput
  rw [xCd]
  simp (maxSteps := 30000000) (disch := first | assumption | omega | (simp only [WZ,AV.isCell] <;> omega) | rfl | decide) only [xBY,WB,haI,↓reduceIte,gn,h61,xAy,xAl,hd,hidxI,hwv,hm,hmin,hbit,Int.reduceEq,go,hra,haa,AV.cells,gr,hput,xBM]
 | false =>
  simp only [Bool.false_or] at hput
  rw [xCd]
  simp (maxSteps := 30000000) (disch := first | assumption | omega | (simp only [WZ,AV.isCell] <;> omega) | rfl | decide) only [xBY,WB,haI,↓reduceIte,gn,h61,xAy,xAl,hd,hidxI,hwv,hm,hmin,hbit,Int.reduceEq,go,hra,haa,AV.cells,gr,hput,xBM]
end
end Go.Abs.Events
