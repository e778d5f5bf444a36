/- The reference's After: a whole row. -/
import Derived.Test.YtdheandekcpieaaDoorAbsBun
import Derived.Test.YtdheandekcpieaaDoorAMH
namespace Go.Abs.Events
open Go Go.Abs
set_option linter.unusedSimpArgs false
set_option linter.unusedVariables false
def xRy (n : Nd) (st : List Nat) (at_ : Nat) : Q := if tmp n.op = true then qOf ((st.drop at_).take 64) else fQ
section
variable {n : Nd} {e : Ev} {qs : List Q} {ro rb nb eb at_ : Nat} {st : List Nat} {z zf : Bool} {fs : List Nd} {v8 s9 s11 : AV}
theorem xWc {G : Heap} {a : Nat} (hv : Vn qs.length n) (hlen : qs.length ≤ 64) (ha : a < 512) (gn : G[nb]? = some (.cells false false n.c)) (ge : G[eb]? = some (.cells false false (evC e))) (hro : 1 ≤ chn n.op → v8 = .own false ro 0 qs.length 1 ∧ G[ro]? = some (.cells false false (rws qs))) (h1 : rb ≠ ro) (h2 : rb ≠ nb)
  (hst : tmp n.op = true → at_ + 64 ≤ st.length ∧ st.length ≤ 100000) (hb : ∀ x ∈ st,x < 256)
  (gr : G[rb]? = some (.cells false false (bls (rl (xAB (evN n e qs (xRy n st at_)) a))))) :
  L.loop xA5 xBW ⟨xGH zf fs z st eb v8 s9 at_ s11 nb rb a,G⟩ = L.loop xA5 xBW ⟨xGH zf fs z st eb v8 s9 at_ s11 nb rb (a + 1),G.set rb (.cells false false (bls (rl (xAB (evN n e qs (xRy n st at_)) (a + 1)))))⟩ := by
 have ho := hv.op
 have : n.op = 1 ∨ n.op = 2 ∨ n.op = 3 ∨ n.op = 4 ∨ n.op = 5 ∨ n.op = 6 ∨ n.op = 7 ∨ n.op = 8 ∨ n.op = 9 ∨ n.op = 10 := by omega
 unfold xRy at gr ⊢
 rcases this with h | h | h | h | h | h | h | h | h | h
 ·have ht : tmp n.op = false := by rw [h]; rfl
  simp only [ht,Bool.false_eq_true,if_false] at gr ⊢
  exact xRh hv h hlen ha gn ge trivial h1 h2 trivial hb gr
 ·have ht : tmp n.op = false := by rw [h]; rfl
  simp only [ht,Bool.false_eq_true,if_false] at gr ⊢
  exact xRi hv h hlen ha gn ge trivial h1 h2 trivial hb gr
 ·have ht : tmp n.op = false := by rw [h]; rfl
  simp only [ht,Bool.false_eq_true,if_false] at gr ⊢
  exact xRj hv h hlen ha gn ge trivial h1 h2 trivial hb gr
 ·have ht : tmp n.op = false := by rw [h]; rfl
  simp only [ht,Bool.false_eq_true,if_false] at gr ⊢
  exact xRk hv h hlen ha gn ge (hro (by rw [h]; decide)) h1 h2 trivial hb gr
 ·have ht : tmp n.op = false := by rw [h]; rfl
  simp only [ht,Bool.false_eq_true,if_false] at gr ⊢
  exact xRl hv h hlen ha gn ge (hro (by rw [h]; decide)) h1 h2 trivial hb gr
 ·have ht : tmp n.op = false := by rw [h]; rfl
  simp only [ht,Bool.false_eq_true,if_false] at gr ⊢
  exact xRm hv h hlen ha gn ge (hro (by rw [h]; decide)) h1 h2 trivial hb gr
 ·have ht : tmp n.op = false := by rw [h]; rfl
  simp only [ht,Bool.false_eq_true,if_false] at gr ⊢
  exact xRn hv h hlen ha gn ge (hro (by rw [h]; decide)) h1 h2 trivial hb gr
 ·have ht : tmp n.op = true := by rw [h]; rfl
  simp only [ht,if_true] at gr ⊢
  exact xRo hv h hlen ha gn ge trivial h1 h2 (hst ht) hb gr
 ·have ht : tmp n.op = true := by rw [h]; rfl
  simp only [ht,if_true] at gr ⊢
  exact xRp hv h hlen ha gn ge (hro (by rw [h]; decide)) h1 h2 (hst ht) hb gr
 ·have ht : tmp n.op = true := by rw [h]; rfl
  simp only [ht,if_true] at gr ⊢
  exact xOv hv h hlen ha gn ge (hro (by rw [h]; decide)) h1 h2 (hst ht) hb gr
theorem xOq (q : Q) : rl (xAB q 512) = rl q := by
 unfold rl
 refine List.map_congr_left fun a ha => ?_
 have := List.mem_range.1 ha
 simp [xAB,this]
set_option maxRecDepth 100000 in
set_option maxHeartbeats 4000000 in
theorem xOr (hv : Vn qs.length n) (hlen : qs.length ≤ 64) (h1 : rb ≠ ro) (h2 : rb ≠ nb) (h3 : rb ≠ eb) (hst : tmp n.op = true → at_ + 64 ≤ st.length ∧ st.length ≤ 100000) (hb : ∀ x ∈ st,x < 256) : ∀ k a,a + k = 512 → ∀ G : Heap,
  G[nb]? = some (.cells false false n.c) → G[eb]? = some (.cells false false (evC e)) → (1 ≤ chn n.op → v8 = .own false ro 0 qs.length 1 ∧ G[ro]? = some (.cells false false (rws qs))) →
  G[rb]? = some (.cells false false (bls (rl (xAB (evN n e qs (xRy n st at_)) a)))) →
  L.loop xA5 xBW ⟨xGH zf fs z st eb v8 s9 at_ s11 nb rb a,G⟩ = some (.exit 2,⟨xGH zf fs z st eb v8 s9 at_ s11 nb rb 512,G.set rb (.cells false false (bls (rl (evN n e qs (xRy n st at_)))))⟩) := by
 intro k
 induction k with
 | zero =>
  intro a hk G gn ge hro gr
  obtain rfl : a = 512 := by omega
  rw [xOq] at gr
  have hset : G.set rb (.cells false false (bls (rl (evN n e qs (xRy n st at_))))) = G := by
   obtain ⟨hk,hx⟩ := List.getElem?_eq_some_iff.1 gr
   rw [← hx,List.set_getElem_self]
  rw [hset,xCd]
  simp (disch := omega) only [xBY,WB,↓reduceIte,xBM]
  try rfl
 | succ k ih =>
  intro a hk G gn ge hro gr
  have lr := xA7 gr
  have e1 := xWc (zf := zf) (fs := fs) (z := z) (s9 := s9) (s11 := s11) hv hlen (show a < 512 by omega) gn ge hro h1 h2 hst hb gr
  have e2 := ih (a + 1) (by omega) (G.set rb (.cells false false (bls (rl (xAB (evN n e qs (xRy n st at_)) (a + 1)))))) (by rw [xBO h2]; exact gn) (by rw [xBO h3]; exact ge) (fun hc => ⟨(hro hc).1,by rw [xBO h1]; exact (hro hc).2⟩) (xEm lr)
  rw [List.set_set] at e2
  exact e1.trans e2
end
section
variable {G : Heap} {o : Nat} {l : List Nat}
theorem xRd (z : Bool) (G : Heap) : L.icall (.func 28 []) [.sl z 0 []] G = some (.own true G.length 0 0 1,G ++ [.cells false true []]) := by
 rw [yCC,a28,xAm]
 simp (disch := first | assumption | omega | rfl | decide) only [WB,Nat.reduceSub]
theorem yAL (z : Bool) (G : Heap) (h0 : 0 < l.length) (hl : l.length ≤ 100000) : L.icall (.func 28 []) [.sl z l.length (bs l)] G = some (.own false G.length 0 l.length 1,G ++ [.cells false false (bs l)]) := by
 have hz : (l.length == 0) = false := by rw [beq_eq_false_iff_ne]; omega
 have hbl := xAz l
 have hbt := xCj l
 rw [yCC,a28,xAm]
 simp (disch := omega) only [WB,Nat.reduceSub,hz]
theorem xRe (go : G[o]? = some (.cells false false (bs l))) (h0 : 0 < l.length) (hl : l.length ≤ 100000) : L.icall (.func 28 []) [.own false o 0 l.length 1] G = some (.own false G.length 0 l.length 1,G ++ [.cells false false (bs l)]) := by
 have hz : (l.length == 0) = false := by rw [beq_eq_false_iff_ne]; omega
 have hbl := xAz l
 have hbt := xCj l
 rw [yCC,a28,xAm]
 simp (disch := omega) only [WB,Nat.reduceSub,go,hbt,hz]
def ovr (l : List Nat) (i : Nat) : List Nat := List.replicate i 201 ++ l.drop i
theorem xYL {l : List Nat} {i : Nat} (h : i ≤ l.length) : (ovr l i).length = l.length := by simp [ovr]; omega
theorem xYM {l : List Nat} {i : Nat} (h : i < l.length) : (ovr l i).set i 201 = ovr l (i + 1) := by
 unfold ovr
 rw [List.set_append_right _ _ (by simp),List.length_replicate,Nat.sub_self,List.drop_eq_getElem_cons h,List.set_cons_zero,List.replicate_succ',List.append_assoc]
 rfl
set_option maxHeartbeats 2000000 in
theorem yAM (hl : l.length ≤ 100000) : ∀ k i,i + k = l.length → ∀ G : Heap,G[o]? = some (.cells false false (bs (ovr l i))) →
  L.loop xJD xTS ⟨xJE (.own false o 0 l.length 1) (.int .i64 (i : Nat)),G⟩ = some (.exit 0,⟨xJE (.own false o 0 l.length 1) (.int .i64 (l.length : Nat)),G.set o (.cells false false (bs (ovr l l.length)))⟩) := by
 intro k
 induction k with
 | zero =>
  intro i hi G go
  obtain rfl : i = l.length := by omega
  have hset : G.set o (.cells false false (bs (ovr l l.length))) = G := by
   obtain ⟨hk,hx⟩ := List.getElem?_eq_some_iff.1 go
   rw [← hx,List.set_getElem_self]
  rw [hset,xXi]
  simp (maxSteps := 30000000) (disch := first | assumption | omega | (simp only [WZ,AV.isCell] <;> omega) | rfl | decide) only [xPW,WB,↓reduceIte,xTT]
 | succ k ih =>
  intro i hi G go
  have hlt : i < l.length := by omega
  have hltI : ((i : Nat) : Int) < (l.length : Nat) := by omega
  have lo := xA7 go
  have hlen := xYL (l := l) (i := i) (by omega)
  have hs := xYM hlt
  have e1 := ih (i + 1) (by omega) (G.set o (.cells false false (bs (ovr l (i + 1))))) (xEm lo)
  rw [List.set_set] at e1
  generalize ovr l (i + 1) = l2 at *
  generalize ovr l i = l1 at *
  have hput : bs (List.take i l1) ++ (AV.int .u8 201 :: bs (List.drop (i + 1) l1)) = bs l2 := by rw [← hs]; exact xOm (n := 201) (by omega)
  rw [xXi]
  simp (maxSteps := 30000000) (disch := first | assumption | omega | (simp only [WZ,AV.isCell] <;> omega) | rfl | decide) only [xPW,WB,hltI,↓reduceIte,AV.cells,go,hput,xTT,e1]
theorem yAN (go : G[o]? = some (.cells false false (bs l))) (hl : l.length ≤ 100000) : L.icall (.func 27 []) [.own false o 0 l.length 1] G = some (.tup [],G.set o (.cells false false (bs (ovr l l.length)))) := by
 have e1 := yAM (o := o) hl l.length 0 (by omega) G (by simpa [ovr] using go)
 have e1' : L.loop xJD xTS ⟨xJE (.own false o 0 l.length 1) (.int .i64 0),G⟩ = _ := e1
 rw [yDV,a27,xAm]
 simp (disch := omega) only [WB,Nat.reduceSub,xTT,e1',↓reduceIte]
end
section
variable {o1 : Nat} {a b : List Nat} {H : Heap} {f1 z1 z2 : Bool}
theorem yAO (h1 : H[o1]? = some (.cells f1 z1 (bs a))) (hl : a.length = b.length) (hm : a.length < 1099511627776) : ∀ e i,i + e = a.length →
  ∃ j : Nat,L.loop xJB xTR ⟨xE5 (.own false o1 0 a.length 1) (.sl z2 b.length (bs b)) (.bool false) (.int .i64 (i : Nat)),H⟩ =
   some (if a.drop i = b.drop i then (.exit 0,⟨xE5 (.own false o1 0 a.length 1) (.sl z2 b.length (bs b)) (.bool false) (.int .i64 (a.length : Nat)),H⟩)
    else (.ret,⟨xE5 (.own false o1 0 a.length 1) (.sl z2 b.length (bs b)) (.bool false) (.int .i64 (j : Nat)),H⟩)) := by
 intro e
 induction e with
 | zero =>
  intro i h
  obtain rfl : i = a.length := by omega
  refine ⟨0,?_⟩
  rw [if_pos (by rw [List.drop_length,hl,List.drop_length]),xJC]
  simp (maxSteps := 30000000) (disch := first | assumption | omega | (simp only [WZ,AV.isCell] <;> omega) | rfl | decide) only [xEi,WB,↓reduceIte,xDo]
 | succ e ih =>
  intro i h
  have hlt : (i : Int) < (a.length : Nat) := by omega
  obtain ⟨j,ih'⟩ := ih (i + 1) (by omega)
  rw [← hl] at ih' ⊢
  have hd := xOx hl (0 : Nat) (show i < a.length by omega)
  by_cases c : a.getD i 0 = b.getD i 0
  ·refine ⟨j,?_⟩
   have hd' : (a.drop i = b.drop i) ↔ (a.drop (i + 1) = b.drop (i + 1)) := hd.trans ⟨fun h => h.2,fun h => ⟨c,h⟩⟩
   rw [xJC]
   by_cases e : a.drop (i + 1) = b.drop (i + 1)
   ·rw [if_pos e] at ih'
    rw [if_pos (hd'.2 e)]
    simp (maxSteps := 30000000) (disch := first | assumption | omega | (simp only [WZ,AV.isCell] <;> omega) | rfl | decide) only [xEi,WB,hlt,↓reduceIte,h1,c,xAh,xDo,ih']
   ·rw [if_neg e] at ih'
    rw [if_neg (fun h => e (hd'.1 h))]
    simp (maxSteps := 30000000) (disch := first | assumption | omega | (simp only [WZ,AV.isCell] <;> omega) | rfl | decide) only [xEi,WB,hlt,↓reduceIte,h1,c,xAh,xDo,ih']
  ·refine ⟨i,?_⟩
   have c' : (((a.getD i 0 : Nat) : Int) = ((b.getD i 0 : Nat) : Int)) = False := eq_false (by omega)
   rw [if_neg (fun h => c (hd.1 h).1),xJC]
   simp (maxSteps := 30000000) (disch := first | assumption | omega | (simp only [WZ,AV.isCell] <;> omega) | rfl | decide) only [xEi,WB,hlt,↓reduceIte,h1,xAh,c',xDo]
theorem yAP (h1 : H[o1]? = some (.cells f1 z1 (bs a))) (hm : a.length < 1099511627776) : L.icall (.func 25 []) [.own false o1 0 a.length 1,.sl z2 b.length (bs b)] H = some (.bool (decide (a = b)),H) := by
 by_cases hl : a.length = b.length
 ·obtain ⟨j,h⟩ := yAO (z2 := z2) h1 hl hm a.length 0 (by omega)
  simp only [Int.natCast_zero,List.drop_zero] at h
  rw [yBV,a25,xAm]
  by_cases c : a = b
  ·rw [if_pos c] at h
   rw [decide_eq_true c]
   rw [← hl] at h ⊢
   simp (disch := omega) only [WB,Nat.reduceAdd,Nat.reduceSub,↓reduceIte,xDo,h]
  ·rw [if_neg c] at h
   rw [decide_eq_false c]
   rw [← hl] at h ⊢
   simp (disch := omega) only [WB,Nat.reduceAdd,Nat.reduceSub,↓reduceIte,xDo,h]
 ·have hl' : (((a.length : Nat) : Int) = ((b.length : Nat) : Int)) = False := eq_false (by omega)
  rw [decide_eq_false (fun e => hl (by rw [e])),yBV,a25,xAm]
  simp (disch := omega) only [WB,Nat.reduceAdd,Nat.reduceSub,hl',↓reduceIte]
end
def shE (e : Ev) : Ev := { e with z := (xDY e.args).isEmpty,args := xDY e.args }
section
variable {l : List Ev} {z : Bool} {v : AV}
set_option maxHeartbeats 4000000 in
theorem xOs (hl : 0 < l.length) : L.pcall 21 [.sl z l.length (evs l),.int .i64 1] = some (.sl false 1 (evC (shE (l.getD 0 ev0)))) := by
 have hat := xQm hl
 rw [Nat.zero_mul,List.drop_zero] at hat
 generalize hN : l.getD 0 ev0 = e at *
 have hev : xA3 e.z e.args = .sl e.z e.args.length (xAE e.args) := rfl
 have h49 := xXB e.z (l := xDY e.args) (by simp [xDY]; omega)
 have hcl : (xDY e.args).length = min e.args.length 4 := by simp [xDY,Nat.min_comm]
 have hmin : min ((e.args.length : Nat) : Int) 4 = ((xDY e.args).length : Nat) := by rw [hcl]; omega
 have hbd : xBa e.args.length none (some (.int .i64 ((xDY e.args).length : Nat))) none = some (0,(xDY e.args).length) := by
  rw [xDT (Int.natCast_nonneg _) (by rw [hcl]; omega)]
  simp
 have htk : xAE (List.take (xDY e.args).length e.args) = xAE (xDY e.args) := by
  congr 1
  rw [hcl]
  unfold xDY
  by_cases c : e.args.length ≤ 4
  ·rw [Nat.min_eq_left c,List.take_of_length_le (Nat.le_refl _),List.take_of_length_le c]
  ·rw [Nat.min_eq_right (by omega)]
 have hlI : (0 : Int) < (l.length : Nat) := by omega
 have hC : evC (shE e) = [.int .i64 e.name,.sl (xDY e.args).isEmpty (xDY e.args).length (xAE (xDY e.args))] := rfl
 rw [hC]
 unfold evC at hat
 rw [hev] at hat
 generalize xDY e.args = l4 at *
 rw [yDT,a21,xAb]
 by_cases c1 : (1 : Int) < (l.length : Nat)
 ·simp (maxSteps := 30000000) (disch := first | assumption | omega | (simp only [WZ,AV.isCell] <;> omega) | rfl | decide) only [WB,Nat.reduceAdd,Nat.reduceSub,xXg,xXh,xPU,hlI,↓reduceIte,Int.reduceLT,Nat.reduceMul,hat,AV.cells,AV.isCell,hmin,hbd,W2,htk,h49,xAy,xAl,Nat.reduceBEq,c1,xBh]
 ·simp (maxSteps := 30000000) (disch := first | assumption | omega | (simp only [WZ,AV.isCell] <;> omega) | rfl | decide) only [WB,Nat.reduceAdd,Nat.reduceSub,xXg,xXh,xPU,hlI,↓reduceIte,Int.reduceLT,Nat.reduceMul,hat,AV.cells,AV.isCell,hmin,hbd,W2,htk,h49,xAy,xAl,Nat.reduceBEq,c1,xBh]
end
theorem xUt (k : Nat) : xCo [AV.bool false] k = bls (List.replicate k false) := by
 induction k with
 | zero => rfl
 | succ k ih => show [AV.bool false] ++ xCo [AV.bool false] k = _; rw [ih]; rfl
theorem xUu (q : Q) : rl (xAB q 0) = List.replicate 512 false := by
 unfold rl
 refine List.eq_replicate_iff.2 ⟨by simp,fun b hb => ?_⟩
 obtain ⟨a,_,rfl⟩ := List.mem_map.1 hb
 simp [xAB]
theorem xOt (d : Nat) (H : Heap) (l : List Bool) : (bls l).flatMap (bor d H) = [] := by
 induction l with
 | nil => rfl
 | cons b l ih =>
  show (AV.bool b :: bls l).flatMap (bor d H) = []
  rw [List.flatMap_cons,ih,xGD]; rfl
structure AI (e : Ev) (eb : Nat) (G : Heap) (qs : List Q) (v8 : AV) (oo : Nat) (out : List Nat) : Prop where
 ge : G[eb]? = some (.cells false false (evC e))
 gr : (qs = [] ∧ v8 = .sl true 0 []) ∨ ∃ ro,v8 = .own false ro 0 qs.length 1 ∧ G[ro]? = some (.cells false false (rws qs)) ∧ qs ≠ [] ∧ ro ≠ oo ∧ ro ≠ eb
 go : G[oo]? = some (.cells false false (bs out))
 ne : oo ≠ eb
section
variable {n : Nd} {e : Ev} {qs : List Q} {eb at_ i oo : Nat} {st out : List Nat} {z zf : Bool} {fs : List Nd} {v8 : AV} {G : Heap}
abbrev xWd (zf : Bool) (fs : List Nd) (z : Bool) (st : List Nat) (eb : Nat) (v8 : AV) (oo : Nat) (out : List Nat) (at_ i : Nat) : List AV := xMU (.sl zf fs.length (nds fs)) (.sl z st.length (bs st)) (.ptr eb 0) v8 (.own false oo 0 out.length 1) (.int .i64 (at_ : Nat)) (.int .i64 (i : Nat))
set_option maxRecDepth 100000 in
set_option maxHeartbeats 8000000 in
theorem xRf (h : AI e eb G qs v8 oo out) (hv : Vn qs.length n) (hlen : qs.length ≤ 63) (hi : qs.length = i) (hlt : i < fs.length) (hn : fs.getD i nd0 = n) (ht : tmp n.op = false) (hb : ∀ x ∈ st,x < 256) :
  ∃ G' v8',L.loop xEj xKN ⟨xWd zf fs z st eb v8 oo out at_ i,G⟩ = L.loop xEj xKN ⟨xWd zf fs z st eb v8' oo out at_ (i + 1),G'⟩ ∧ AI e eb G' (qs ++ [evN n e qs fQ]) v8' oo out := by
 obtain ⟨ge,gr,go,ne⟩ := h
 have le := xA7 ge
 have lo := xA7 go
 have hltI : ((i : Nat) : Int) < (fs.length : Nat) := by omega
 have hnv : xA3 n.z n.args = .sl n.z n.args.length (xAE n.args) := rfl
 have h61 := xFU n.op
 rw [ht] at h61
 have hrep : xCo [AV.bool false] 512 = bls (rl (xAB (evN n e qs fQ) 0)) := by rw [xUt,xUu]
 have hwas : xRy n st at_ = fQ := by unfold xRy; rw [ht]; rfl
 rcases gr with ⟨rfl,rfl⟩ | ⟨ro,rfl,gr,hne,roo,roe⟩
 ·have e1 := xOr (n := n) (e := e) (qs := []) (ro := G.length + 2) (rb := G.length + 1) (nb := G.length) (eb := eb) (at_ := at_) (st := st) (z := z) (zf := zf) (fs := fs) (v8 := .sl true 0 []) (s9 := .own false oo 0 out.length 1) (s11 := .int .i64 (i : Nat)) hv (by simp) (by omega) (by omega) (by omega) (fun q => by rw [ht] at q; cases q) hb 512 0 rfl
   (G ++ [.cells false false n.c,.cells false false (bls (rl (xAB (evN n e [] fQ) 0)))]) (by rw [List.getElem?_append_right (Nat.le_refl _),Nat.sub_self]; rfl) (by rw [xAI le]; exact ge)
   (fun q => by have := hv.ca q; simp at this; omega) (by rw [hwas,List.getElem?_append_right (by omega)]; simp)
  rw [hwas] at e1
  generalize evN n e [] fQ = q at *
  refine ⟨G ++ [.cells false false n.c,.cells true false (bls (rl q)),.cells false false (rws [q])],.own false (G.length + 2) 0 1 1,?_,⟨?_,.inr ⟨G.length + 2,rfl,?_,by simp,by omega,by omega⟩,?_,ne⟩⟩
  ·have hbl := xAF (rl q)
   rw [xAS] at hbl
   have hbt : List.take 512 (bls (rl q)) = bls (rl q) := List.take_of_length_le (by omega)
   have hfr := fun d H => xIm d H (rl q)
   have hbo := fun d H => xOt d H (rl q)
   have hrw : rws [q] = [.sl false 512 (bls (rl q))] := rfl
   rw [xXF (by omega)] at e1
   simp only [List.set_cons_succ,List.set_cons_zero] at e1
   have e1' : L.loop xA5 xBW ⟨xHT (.sl zf fs.length (nds fs)) (.sl z st.length (bs st)) (.ptr eb 0) (.sl true 0 []) (.own false oo 0 out.length 1) (.int .i64 (at_ : Nat)) (.int .i64 (i : Nat)) (.ptr G.length 0) (.own false (G.length + 1) 0 512 1) (.int .i64 0),G ++ [.cells false false n.c,.cells false false (bls (rl (xAB q 0)))]⟩ = _ := e1
   rw [hrw]
   generalize bls (rl q) = R at *
   generalize bls (rl (xAB q 0)) = R0 at *
   unfold Nd.c at e1'
   unfold Nd.c
   rw [hnv] at e1' ⊢
   rw [xMV]
   simp (maxSteps := 30000000) (disch := first | assumption | omega | (simp only [WZ,AV.isCell] <;> omega) | rfl | decide) only [xHU,WB,hltI,↓reduceIte,xAv,Nd.c,hn,hnv,AV.cells,AV.isCell,Nat.reduceAdd,xBD,xBX,Int.reduceToNat,hrep,xBM,e1',xHG,xKk,hbt,hbo,xBh,hfr,Nat.reduceEqDiff,Nat.reduceSub,xCy,Nat.reduceBEq,h61,xAy,xAl,xJN]
  ·rw [xAI le]; exact ge
  ·rw [List.getElem?_append_right (by omega)]; simp
  ·rw [xAI lo]; exact go
 ·have lr := xA7 gr
  have e1 := xOr (n := n) (e := e) (qs := qs) (ro := ro) (rb := G.length + 1) (nb := G.length) (eb := eb) (at_ := at_) (st := st) (z := z) (zf := zf) (fs := fs) (v8 := .own false ro 0 qs.length 1) (s9 := .own false oo 0 out.length 1) (s11 := .int .i64 (i : Nat)) hv (by omega) (by omega) (by omega) (by omega) (fun q => by rw [ht] at q; cases q) hb 512 0 rfl
   (G ++ [.cells false false n.c,.cells false false (bls (rl (xAB (evN n e qs fQ) 0)))]) (by rw [List.getElem?_append_right (Nat.le_refl _),Nat.sub_self]; rfl) (by rw [xAI le]; exact ge)
   (fun _ => ⟨rfl,by rw [xAI lr]; exact gr⟩) (by rw [hwas,List.getElem?_append_right (by omega)]; simp)
  rw [hwas] at e1
  generalize evN n e qs fQ = q at *
  refine ⟨G.set ro .dead ++ [.cells false false n.c,.cells true false (bls (rl q)),.cells false false (rws (qs ++ [q]))],.own false (G.length + 2) 0 (qs.length + 1) 1,?_,⟨?_,.inr ⟨G.length + 2,by simp,?_,by simp,by omega,by omega⟩,?_,ne⟩⟩
  ·have hbl := xAF (rl q)
   rw [xAS] at hbl
   have hbt : List.take 512 (bls (rl q)) = bls (rl q) := List.take_of_length_le (by omega)
   have hfr := fun d H => xIm d H (rl q)
   have hbo := fun d H => xOt d H (rl q)
   have hrw : rws qs ++ [.sl false 512 (bls (rl q))] = rws (qs ++ [q]) := by simp [rws,RW]
   have hrl := xCM qs
   have hrt : List.take qs.length (rws qs) = rws qs := List.take_of_length_le (by omega)
   rw [xXF (by omega)] at e1
   simp only [List.set_cons_succ,List.set_cons_zero] at e1
   have e1' : L.loop xA5 xBW ⟨xHT (.sl zf fs.length (nds fs)) (.sl z st.length (bs st)) (.ptr eb 0) (.own false ro 0 qs.length 1) (.own false oo 0 out.length 1) (.int .i64 (at_ : Nat)) (.int .i64 (i : Nat)) (.ptr G.length 0) (.own false (G.length + 1) 0 512 1) (.int .i64 0),G ++ [.cells false false n.c,.cells false false (bls (rl (xAB q 0)))]⟩ = _ := e1
   generalize rws (qs ++ [q]) = L2 at *
   generalize rws qs = L1 at *
   generalize bls (rl q) = R at *
   generalize bls (rl (xAB q 0)) = R0 at *
   unfold Nd.c at e1'
   unfold Nd.c
   rw [hnv] at e1' ⊢
   rw [xMV]
   simp (maxSteps := 30000000) (disch := first | assumption | omega | (simp only [WZ,AV.isCell] <;> omega) | rfl | decide) only [xHU,WB,hltI,↓reduceIte,xAv,Nd.c,hn,hnv,AV.cells,AV.isCell,Nat.reduceAdd,xBD,xBX,Int.reduceToNat,hrep,xBM,e1',xHG,xKk,hbt,hbo,xBh,hfr,Nat.reduceEqDiff,Nat.reduceSub,xCy,xAI,gr,Nat.reduceBEq,xDs,hrt,hrw,h61,xAy,xAl,xJN]
  ·rw [xAI (by simpa using le),xBO (by omega)]; exact ge
  ·rw [List.getElem?_append_right (by simp)]; simp
  ·rw [xAI (by simpa using lo),xBO (by omega)]; exact go
end
theorem xWe (q : Q) : bsQ (xAB q 0) = List.replicate 64 0 := by
 have : bsQ (xAB q 0) = bsQ fQ := xOI fun j _ => by simp [xAB,fQ]
 rw [this,xQi]
section
variable {n : Nd} {e : Ev} {qs : List Q} {eb at_ i oo : Nat} {st out : List Nat} {z zf : Bool} {fs : List Nd} {v8 : AV} {G : Heap}
set_option maxRecDepth 100000 in
set_option maxHeartbeats 8000000 in
theorem xRg (h : AI e eb G qs v8 oo out) (hv : Vn qs.length n) (hlen : qs.length ≤ 63) (hi : qs.length = i) (hlt : i < fs.length) (hn : fs.getD i nd0 = n) (ht : tmp n.op = true) (hb : ∀ x ∈ st,x < 256) (hat : at_ + 64 ≤ st.length) (hst : st.length ≤ 100000) (hout : out.length ≤ 100000) :
  ∃ G' v8' oo',L.loop xEj xKN ⟨xWd zf fs z st eb v8 oo out at_ i,G⟩ = L.loop xEj xKN ⟨xWd zf fs z st eb v8' oo' (out ++ bsQ (xDj n qs (evN n e qs (qOf ((st.drop at_).take 64))))) (at_ + 64) (i + 1),G'⟩ ∧
   AI e eb G' (qs ++ [evN n e qs (qOf ((st.drop at_).take 64))]) v8' oo' (out ++ bsQ (xDj n qs (evN n e qs (qOf ((st.drop at_).take 64))))) := by
 obtain ⟨ge,gr,go,ne⟩ := h
 have le := xA7 ge
 have lo := xA7 go
 have hltI : ((i : Nat) : Int) < (fs.length : Nat) := by omega
 have hnv : xA3 n.z n.args = .sl n.z n.args.length (xAE n.args) := rfl
 have h61 := xFU n.op
 rw [ht] at h61
 have hwas : xRy n st at_ = qOf ((st.drop at_).take 64) := by unfold xRy; rw [ht]; rfl
 have hch : 1 ≤ chn n.op := by
  have : n.op = 8 ∨ n.op = 9 ∨ n.op = 10 := by unfold tmp at ht; simp at ht; omega
  rcases this with h | h | h <;> rw [h] <;> decide
 have hA := xAD (hv.ca hch)
 have hna := hA.1
 rcases gr with ⟨rfl,rfl⟩ | ⟨ro,rfl,gr,hne,roo,roe⟩
 ·simp at hA
 have lr := xA7 gr
 have e1 := xOr (n := n) (e := e) (qs := qs) (ro := ro) (rb := G.length + 1) (nb := G.length) (eb := eb) (at_ := at_) (st := st) (z := z) (zf := zf) (fs := fs) (v8 := .own false ro 0 qs.length 1) (s9 := .own false oo 0 out.length 1) (s11 := .int .i64 (i : Nat)) hv (by omega) (by omega) (by omega) (by omega) (fun _ => ⟨hat,hst⟩) hb 512 0 rfl
  (G ++ [.cells false false n.c,.cells false false (bls (rl (xAB (evN n e qs (xRy n st at_)) 0)))]) (by rw [List.getElem?_append_right (Nat.le_refl _),Nat.sub_self]; rfl) (by rw [xAI le]; exact ge)
  (fun _ => ⟨rfl,by rw [xAI lr]; exact gr⟩) (by rw [List.getElem?_append_right (by omega)]; simp)
 rw [hwas] at e1
 have hrep : xCo [AV.bool false] 512 = bls (rl (xAB (evN n e qs (qOf ((st.drop at_).take 64))) 0)) := by rw [xUt,xUu]
 have hkeep : ¬ n.op = 8 → xDj n qs (evN n e qs (qOf ((st.drop at_).take 64))) = evN n e qs (qOf ((st.drop at_).take 64)) := fun c => if_neg c
 have hkeep8 : n.op = 8 → xDj n qs (evN n e qs (qOf ((st.drop at_).take 64))) = qs.getD n.a.toNat fQ := fun c => if_pos c
 generalize evN n e qs (qOf ((st.drop at_).take 64)) = q at *
 generalize hkq : xDj n qs q = kq at *
 have hbl := xAF (rl q)
 rw [xAS] at hbl
 have hbt : List.take 512 (bls (rl q)) = bls (rl q) := List.take_of_length_le (by omega)
 have hfr := fun d H => xIm d H (rl q)
 have hbo := fun d H => xOt d H (rl q)
 have hrw : rws qs ++ [.sl false 512 (bls (rl q))] = rws (qs ++ [q]) := by simp [rws,RW]
 have hrl := xCM qs
 have hrt : List.take qs.length (rws qs) = rws qs := List.take_of_length_le (by omega)
 have hrl2 := xCM (qs ++ [q])
 have hra := xDV (qs := qs ++ [q]) (k := n.a.toNat) (by simp; omega)
 have hga : (qs ++ [q]).getD n.a.toNat fQ = qs.getD n.a.toNat fQ := by
  rw [List.getD_eq_getElem?_getD,List.getElem?_append_left hA.2,List.getD_eq_getElem?_getD]
 rw [hga] at hra
 unfold RW at hra
 rw [List.length_append,List.length_singleton] at hrl2
 have hbrep : xCo [AV.int .u8 0] 64 = bs (bsQ (xAB kq 0)) := by rw [xUo,xWe]
 have hbq64 := xDk kq
 have hbqT : List.take 64 (bs (bsQ kq)) = bs (bsQ kq) := List.take_of_length_le (by rw [xAz,hbq64]; omega)
 have hbsq : (bs (bsQ kq)).length = 64 := by rw [xAz,hbq64]
 have hout2 : bs out ++ bs (bsQ kq) = bs (out ++ bsQ kq) := by simp [bs]
 have hol := xAz out
 have hot := xCj out
 have hlo : (out ++ bsQ kq).length = out.length + 64 := by rw [List.length_append,hbq64]
 rw [xXF (by omega)] at e1
 simp only [List.set_cons_succ,List.set_cons_zero] at e1
 have e1' : L.loop xA5 xBW ⟨xHT (.sl zf fs.length (nds fs)) (.sl z st.length (bs st)) (.ptr eb 0) (.own false ro 0 qs.length 1) (.own false oo 0 out.length 1) (.int .i64 (at_ : Nat)) (.int .i64 (i : Nat)) (.ptr G.length 0) (.own false (G.length + 1) 0 512 1) (.int .i64 0),G ++ [.cells false false n.c,.cells false false (bls (rl (xAB q 0)))]⟩ = _ := e1
 have e2 := xYO (q := kq) (z := false) (ob := G.length + 3) (s0 := .sl zf fs.length (nds fs)) (s1 := .sl z st.length (bs st)) (s5 := .ptr eb 0) (s8 := .own false (G.length + 2) 0 (qs.length + 1) 1) (s9 := .own false oo 0 out.length 1) (s10 := .int .i64 (at_ : Nat)) (s11 := .int .i64 (i : Nat)) 512 0 rfl
  (G.set ro .dead ++ [.cells false false n.c,.cells true false (bls (rl q)),.cells false false (rws (qs ++ [q])),.cells false false (bs (bsQ (xAB kq 0)))]) (by rw [List.getElem?_append_right (by simp)]; simp)
 rw [xXF (by simp)] at e2
 simp only [List.set_cons_succ,List.set_cons_zero] at e2
 have e2' : L.loop xJL xTY ⟨xJM (.sl zf fs.length (nds fs)) (.sl z st.length (bs st)) (.ptr eb 0) (.own false (G.length + 2) 0 (qs.length + 1) 1) (.own false oo 0 out.length 1) (.int .i64 (at_ : Nat)) (.int .i64 (i : Nat)) (.sl false 512 (bls (rl kq))) (.own false (G.length + 3) 0 64 1) (.int .i64 0),
  G.set ro .dead ++ [.cells false false n.c,.cells true false (bls (rl q)),.cells false false (rws (qs ++ [q])),.cells false false (bs (bsQ (xAB kq 0)))]⟩ = _ := e2
 refine ⟨(G.set ro .dead).set oo .dead ++ [.cells false false n.c,.cells true false (bls (rl q)),.cells false false (rws (qs ++ [q])),.cells false false (bs (bsQ kq)),.cells false false (bs (out ++ bsQ kq))],.own false (G.length + 2) 0 (qs.length + 1) 1,G.length + 4,?_,⟨?_,.inr ⟨G.length + 2,by simp,?_,by simp,by omega,by omega⟩,?_,by omega⟩⟩
 ·have hAI : ((n.a.toNat : Nat) : Int) < ((qs.length + 1 : Nat) : Int) := by omega
  have hA1 : n.a.toNat < qs.length + 1 := by omega
  have hko : oo ≠ ro := fun q => roo q.symm
  by_cases c8 : n.op = 8
  ·have c8' : (((n.op : Nat) : Int) = 8) = True := eq_true (by omega)
   have hk := hkeep8 c8
   clear hkq hkeep hkeep8
   subst hk
   generalize n.a.toNat = A at *
   generalize qs.getD A fQ = kq2 at *
   unfold xWd
   rw [hlo,show ((at_ + 64 : Nat) : Int) = (at_ : Int) + 64 by omega]
   generalize bs (out ++ bsQ kq2) = OUT2 at *
   generalize bs (bsQ kq2) = BQ at *
   generalize rws (qs ++ [q]) = L2 at *
   generalize rws qs = L1 at *
   generalize bls (rl q) = R at *
   generalize bls (rl (xAB q 0)) = R0 at *
   unfold Nd.c at e1' e2'
   unfold Nd.c
   rw [hnv,hna] at e1' e2' ⊢
   rw [xMV]
   simp (maxSteps := 30000000) (disch := first | assumption | omega | (simp only [WZ,AV.isCell] <;> omega) | rfl | decide) only [xHU,WB,hltI,↓reduceIte,xAv,Nd.c,hn,hnv,hna,AV.cells,AV.isCell,Nat.reduceAdd,xBD,xBX,Int.reduceToNat,hrep,xBM,e1',xHG,xKk,hbt,hbo,xBh,hfr,Nat.reduceEqDiff,Nat.reduceSub,xCy,xAI,gr,Nat.reduceBEq,xDs,hrt,hrw,h61,xAy,xAl,c8',hra,hbrep,xMT,e2',hbqT,xBO,go,hot,hout2,xJN]
  ·have c8' : ¬ ((n.op : Nat) : Int) = 8 := by omega
   have hk := hkeep c8
   clear hkq hkeep hkeep8
   subst hk
   unfold xWd
   rw [hlo,show ((at_ + 64 : Nat) : Int) = (at_ : Int) + 64 by omega]
   generalize bs (out ++ bsQ kq) = OUT2 at *
   generalize bs (bsQ kq) = BQ at *
   generalize rws (qs ++ [kq]) = L2 at *
   generalize rws qs = L1 at *
   generalize bls (rl kq) = R at *
   generalize bls (rl (xAB kq 0)) = R0 at *
   unfold Nd.c at e1' e2'
   unfold Nd.c
   rw [hnv] at e1' e2' ⊢
   rw [xMV]
   simp (maxSteps := 30000000) (disch := first | assumption | omega | (simp only [WZ,AV.isCell] <;> omega) | rfl | decide) only [xHU,WB,hltI,↓reduceIte,xAv,Nd.c,hn,hnv,AV.cells,AV.isCell,Nat.reduceAdd,xBD,xBX,Int.reduceToNat,hrep,xBM,e1',xHG,xKk,hbt,hbo,xBh,hfr,Nat.reduceEqDiff,Nat.reduceSub,xCy,xAI,gr,Nat.reduceBEq,xDs,hrt,hrw,h61,xAy,xAl,c8',hbrep,xMT,e2',hbqT,xBO,go,hot,hout2,xJN]
 ·rw [xAI (by simpa using le),xBO (by omega),xBO (by omega)]; exact ge
 ·rw [List.getElem?_append_right (by simp)]; simp
 ·rw [List.getElem?_append_right (by simp)]; simp
end
end Go.Abs.Events
