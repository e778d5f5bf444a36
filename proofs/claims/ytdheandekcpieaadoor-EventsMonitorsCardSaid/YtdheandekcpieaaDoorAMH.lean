/- What a formula means at a time; a monitor answers it. -/
import Derived.Test.YtdheandekcpieaaDoorAME
import Derived.Test.YtdheandekcpieaaDoorAbsBun
import Derived.Test.YtdheandekcpieaaDoorAMG
namespace Go.Abs.Events
open Go Go.Abs
set_option maxHeartbeats 8000000
set_option linter.unusedSimpArgs false
set_option linter.unusedVariables false
def evF (n : Nd) (e : Ev) (A B was : Q) : Q :=
 if n.op = 1 then fun _ => true
 else if n.op = 2 then (if n.name = e.name ∧ n.args.length = e.args.length then fun j => mat j n.args e.args else fQ)
 else if n.op = 3 then fun j => tvs (n.args.getD 0 0) j == tvs (n.args.getD 1 0) j
 else if n.op = 4 then fun j => !A j
 else if n.op = 5 then fun j => A j && B j
 else if n.op = 6 then fun j => A j || B j
 else if n.op = 7 then exQ n.x.toNat A
 else if n.op = 8 then was
 else if n.op = 9 then fun j => B j || (A j && was j)
 else fun j => A j || was j
theorem yFo (n : Nd) (e : Ev) (qs : List Q) (was : Q) : evN n e qs was = evF n e (qs.getD n.a.toNat fQ) (qs.getD n.b.toNat fQ) was := rfl
def xJh (n : Nd) (E : List Ev) (A B : Nat → Q) : Nat → Q
 | 0 => fQ
 | t + 1 => if n.op = 8 then A t else evF n (E.getD t ev0) (A t) (B t) (xJh n E A B t)
def sem (fs : List Nd) (E : List Ev) : Nat → Nat → Nat → Q
 | 0,_,_ => fQ
 | k + 1,i,t => evF (fs.getD i nd0) (E.getD t ev0) (sem fs E k (fs.getD i nd0).a.toNat t) (sem fs E k (fs.getD i nd0).b.toNat t) (xJh (fs.getD i nd0) E (sem fs E k (fs.getD i nd0).a.toNat) (sem fs E k (fs.getD i nd0).b.toNat) t)
section
variable {n : Nd} {e : Ev} {A B w : Q}
theorem yGL (h : n.op = 1) : evF n e A B w = fun _ => true := by unfold evF; simp only [h,Nat.reduceEqDiff,if_true,if_false]
theorem yGM (h : n.op = 2) : evF n e A B w = (if n.name = e.name ∧ n.args.length = e.args.length then fun j => mat j n.args e.args else fQ) := by unfold evF; simp only [h,Nat.reduceEqDiff,if_true,if_false]
theorem yGN (h : n.op = 3) : evF n e A B w = fun j => tvs (n.args.getD 0 0) j == tvs (n.args.getD 1 0) j := by unfold evF; simp only [h,Nat.reduceEqDiff,if_true,if_false]
theorem yGO (h : n.op = 4) : evF n e A B w = fun j => !A j := by unfold evF; simp only [h,Nat.reduceEqDiff,if_true,if_false]
theorem yGP (h : n.op = 5) : evF n e A B w = fun j => A j && B j := by unfold evF; simp only [h,Nat.reduceEqDiff,if_true,if_false]
theorem yGQ (h : n.op = 6) : evF n e A B w = fun j => A j || B j := by unfold evF; simp only [h,Nat.reduceEqDiff,if_true,if_false]
theorem yGR (h : n.op = 7) : evF n e A B w = exQ n.x.toNat A := by unfold evF; simp only [h,Nat.reduceEqDiff,if_true,if_false]
theorem yGS (h : n.op = 8) : evF n e A B w = w := by unfold evF; simp only [h,Nat.reduceEqDiff,if_true,if_false]
theorem yFM (h : n.op = 9) : evF n e A B w = fun j => B j || (A j && w j) := by unfold evF; simp only [h,Nat.reduceEqDiff,if_true,if_false]
theorem yDE (h : n.op = 10) : evF n e A B w = fun j => A j || w j := by unfold evF; simp only [h,Nat.reduceEqDiff,if_true,if_false]
end
theorem xYa {n : Nd} {e : Ev} {A A' B B' w w' : Q} (ho : 1 ≤ n.op ∧ n.op ≤ 10) (ha : 1 ≤ chn n.op → A = A') (hb : chn n.op = 2 → B = B') (hw : tmp n.op = true → w = w') : evF n e A B w = evF n e A' B' w' := by
 have : n.op = 1 ∨ n.op = 2 ∨ n.op = 3 ∨ n.op = 4 ∨ n.op = 5 ∨ n.op = 6 ∨ n.op = 7 ∨ n.op = 8 ∨ n.op = 9 ∨ n.op = 10 := by omega
 unfold evF
 rcases this with h | h | h | h | h | h | h | h | h | h <;> rw [h] at ha hb hw ⊢ <;> simp [chn,tmp] at ha hb hw ⊢ <;> simp [*]
theorem xWp {n : Nd} {E : List Ev} {A A' B B' : Nat → Q} (ho : 1 ≤ n.op ∧ n.op ≤ 10) (ha : 1 ≤ chn n.op → A = A') (hb : chn n.op = 2 → B = B') (ht : tmp n.op = true) : ∀ t,xJh n E A B t = xJh n E A' B' t
 | 0 => rfl
 | t + 1 => by
  have hc : 1 ≤ chn n.op := by
   unfold tmp at ht
   simp at ht
   rcases ht with (h | h) | h <;> rw [h] <;> decide
  rw [xJh,xJh]
  have h1 := ha hc
  have ih := xWp (E := E) ho ha hb ht t
  subst h1
  rw [xYa ho (fun _ => rfl) (fun h => congrFun (hb h) t) (fun _ => ih)]
section
variable {fs : List Nd} {E : List Ev}
theorem xHr (hV : ∀ j,j < fs.length → Vn j (fs.getD j nd0)) : ∀ (k i m : Nat),i < k → i < m → i < fs.length → sem fs E k i = sem fs E m i
 | 0,_,_,h,_,_ => absurd h (by omega)
 | k + 1,i,0,_,h,_ => absurd h (by omega)
 | k + 1,i,m + 1,h1,h2,hi => by
  have hv := hV i hi
  have ha : 1 ≤ chn (fs.getD i nd0).op → sem fs E k (fs.getD i nd0).a.toNat = sem fs E m (fs.getD i nd0).a.toNat := fun h => by
   have := hv.ca h
   exact xHr hV k _ m (by omega) (by omega) (by omega)
  have hb : chn (fs.getD i nd0).op = 2 → sem fs E k (fs.getD i nd0).b.toNat = sem fs E m (fs.getD i nd0).b.toNat := fun h => by
   have := hv.cb h
   exact xHr hV k _ m (by omega) (by omega) (by omega)
  funext t
  rw [sem,sem]
  exact xYa hv.op (fun h => congrFun (ha h) t) (fun h => congrFun (hb h) t) (fun h => xWp hv.op ha hb h t)
def S (fs : List Nd) (E : List Ev) (i t : Nat) : Q := sem fs E (i + 1) i t
def W (fs : List Nd) (E : List Ev) (i t : Nat) : Q := xJh (fs.getD i nd0) E (S fs E (fs.getD i nd0).a.toNat) (S fs E (fs.getD i nd0).b.toNat) t
theorem xRH {f : Nat → Q} {i a : Nat} (h : a < i) : ((List.range i).map f).getD a fQ = f a := by
 rw [List.getD_eq_getElem?_getD,List.getElem?_map,List.getElem?_range h]; rfl
theorem yD0 (hV : ∀ j,j < fs.length → Vn j (fs.getD j nd0)) {i : Nat} (hi : i < fs.length) (t : Nat) : S fs E i t = evF (fs.getD i nd0) (E.getD t ev0) (S fs E (fs.getD i nd0).a.toNat t) (S fs E (fs.getD i nd0).b.toNat t) (W fs E i t) := by
 have hv := hV i hi
 have ha : 1 ≤ chn (fs.getD i nd0).op → sem fs E i (fs.getD i nd0).a.toNat = S fs E (fs.getD i nd0).a.toNat := fun h => by
  have := hv.ca h
  exact xHr hV _ _ _ (by omega) (by omega) (by omega)
 have hb : chn (fs.getD i nd0).op = 2 → sem fs E i (fs.getD i nd0).b.toNat = S fs E (fs.getD i nd0).b.toNat := fun h => by
  have := hv.cb h
  exact xHr hV _ _ _ (by omega) (by omega) (by omega)
 show sem fs E (i + 1) i t = _
 rw [sem]
 exact xYa hv.op (fun h => congrFun (ha h) t) (fun h => congrFun (hb h) t) (fun h => xWp hv.op ha hb h t)
theorem S_N (hV : ∀ j,j < fs.length → Vn j (fs.getD j nd0)) {i : Nat} (hi : i < fs.length) (t : Nat) (w : Q) (hw : tmp (fs.getD i nd0).op = true → w = W fs E i t) : evN (fs.getD i nd0) (E.getD t ev0) ((List.range i).map fun a => S fs E a t) w = S fs E i t := by
 have hv := hV i hi
 rw [yD0 hV hi,yFo]
 refine xYa hv.op (fun h => ?_) (fun h => ?_) hw
 ·have := hv.ca h
  exact xRH (by omega)
 ·have := hv.cb h
  exact xRH (by omega)
def tlR : List Nd → Nat → List Nat
 | [],_ => []
 | n :: r,p => if tmp n.op = true then p :: tlR r (p + 1) else tlR r (p + 1)
theorem xWq : ∀ (l : List Nd) (p : Nat),(tlR l p).length = nT l
 | [],_ => rfl
 | n :: r,p => by
  have ih := xWq r (p + 1)
  unfold nT at ih ⊢
  rw [tlR,List.filter_cons]
  split <;> simp [ih]
theorem xOz {α : Type} {l r : List α} {p : Nat} {n d : α} (h : l.drop p = n :: r) : l.getD p d = n ∧ p < l.length ∧ l.drop (p + 1) = r := by
 have hp : p < l.length := by
  by_cases c : p < l.length
  ·exact c
  ·rw [List.drop_eq_nil_of_le (by omega)] at h; cases h
 rw [List.drop_eq_getElem_cons hp] at h
 have h1 := (List.cons.inj h).1
 have h2 := (List.cons.inj h).2
 exact ⟨by rw [List.getD_eq_getElem?_getD,List.getElem?_eq_getElem hp]; exact h1,hp,h2⟩
theorem xOA (hV : ∀ j,j < fs.length → Vn j (fs.getD j nd0)) (t : Nat) : ∀ (rest : List Nd) (p : Nat),fs.drop p = rest → p ≤ fs.length →
  xE6 (E.getD t ev0) rest ((List.range p).map fun a => S fs E a t) ((tlR rest p).map fun i => W fs E i t) = ((List.range fs.length).map fun a => S fs E a t,(tlR rest p).map fun i => W fs E i (t + 1))
 | [],p,h,hp => by
  have : fs.length ≤ p := by
   by_cases c : fs.length ≤ p
   ·exact c
   ·rw [List.drop_eq_getElem_cons (by omega)] at h; cases h
  rw [show p = fs.length by omega]; rfl
 | n :: r,p,h,hp => by
  obtain ⟨h1,h2,h3⟩ := xOz (d := nd0) h
  have ih := xOA hV t r (p + 1) h3 (by omega)
  rw [List.range_succ,List.map_append] at ih
  rw [xE6]
  by_cases c : tmp n.op = true
  ·rw [if_pos c,tlR,if_pos c]
   have hq := S_N (E := E) hV h2 t (W fs E p t) (fun _ => rfl)
   rw [h1] at hq
   show (_,_ :: _) = _
   rw [List.map_cons,List.headD_cons,List.tail_cons,hq]
   have ih' : xE6 (E.getD t ev0) r ((List.range p).map (fun a => S fs E a t) ++ [S fs E p t]) ((tlR r (p + 1)).map fun i => W fs E i t) = _ := ih
   rw [ih',List.map_cons]
   have hk : xE7 n ((List.range p).map fun a => S fs E a t) (S fs E p t) = W fs E p (t + 1) := by
    have hv := hV p h2
    unfold xE7 W
    rw [h1] at hv ⊢
    rw [xJh]
    by_cases c8 : n.op = 8
    ·rw [if_pos c8,if_pos c8,xRH]
     have := hv.ca (by rw [c8]; decide)
     omega
    ·rw [if_neg c8,if_neg c8,yD0 hV h2,h1]
     unfold W
     rw [h1]
   rw [hk]
  ·rw [if_neg c,tlR,if_neg c]
   have hq := S_N (E := E) hV h2 t fQ (fun h => by rw [h1] at h; exact absurd h c)
   rw [h1] at hq
   rw [hq]
   exact ih
end
def xA8 (q : Nat → Q) (T : Nat) : List AV := (List.range T).map fun t => RW (q t)
def yBt (q : Nat → Q) (T : Nat) : AV := .sl (T == 0) T (xA8 q T)
def xBH (V : Nat → Nat → Q) (i T : Nat) : List AV := (List.range i).map fun j => yBt (V j) T
theorem xBg (q : Nat → Q) (T : Nat) : (xA8 q T).length = T := by simp [xA8]
theorem xB8 (V : Nat → Nat → Q) (i T : Nat) : (xBH V i T).length = i := by simp [xBH]
theorem xBR {q : Nat → Q} {T t : Nat} (h : t < T) : List.take 1 (List.drop t (xA8 q T)) = [RW (q t)] := by
 rw [List.drop_eq_getElem_cons (by simpa [xA8] using h),List.take_succ_cons,List.take_zero]
 simp [xA8]
theorem xCn {V : Nat → Nat → Q} {i T j : Nat} (h : j < i) (hT : 0 < T) : List.take 1 (List.drop j (xBH V i T)) = [.sl false T (xA8 (V j) T)] := by
 rw [List.drop_eq_getElem_cons (by simpa [xBH] using h),List.take_succ_cons,List.take_zero]
 have : (T == 0) = false := by rw [beq_eq_false_iff_ne]; omega
 simp [xBH,yBt,this]
section
variable {n : Nd} {V : Nat → Nat → Q} {q : Q} {G : Heap} {ro rb nb i t a : Nat} {E : List Ev} {zt : Bool} {s0 v5 s6 s8 : AV}
abbrev xGF (s0 : AV) (zt : Bool) (E : List Ev) (v5 s6 s8 : AV) (nb t rb a : Nat) : List AV := xK2 s0 (.sl zt E.length (evs E)) v5 s6 (.ptr nb 0) s8 (.int .i64 (t : Nat)) (.own false rb 0 512 1) (.int .i64 (a : Nat))
set_option maxRecDepth 100000 in
theorem yGT (hv : Vn i n) (ho : n.op = 1) (hi : i ≤ 64) (ha : a < 512) (hT : t < E.length) (hE : E.length ≤ 64) (gn : G[nb]? = some (.cells false false n.c)) (hro : True) (h1 : rb ≠ ro) (h2 : rb ≠ nb)
  (hq : q a = true) (gr : G[rb]? = some (.cells false false (bls (rl (xAI q a))))) :
  L.loop xA6 xBY ⟨xGF s0 zt E v5 s6 s8 nb t rb a,G⟩ = L.loop xA6 xBY ⟨xGF s0 zt E v5 s6 s8 nb t rb (a + 1),G.set rb (.cells false false (bls (rl (xAI q (a + 1)))))⟩ := by
 have haI : ((a : Nat) : Int) < 512 := by omega
 have hrl : (bls (rl (xAI q a))).length = 512 := by rw [xAE,xAZ]
 have hput := xCO (r := rl (xAI q a)) (a := a) (by rw [xAZ]; exact ha) (q a)
 rw [xEm ha] at hput
 have hnv : xA7 n.z n.args = .sl n.z n.args.length (xAv n.args) := rfl
 rw [hq] at hput
 generalize bls (rl (xAI q (a + 1))) = R1 at *
 generalize bls (rl (xAI q a)) = R0 at *
 unfold Nd.c at gn
 rw [hnv,ho] at gn
 have gn : G[nb]? = some (.cells false false (.int .u8 1 :: _)) := gn
 rw [xCX]
 simp (maxSteps := 30000000) (disch := first|exact D6|fail) only [xCq,WB,haI,↓reduceIte,gn,AV.cells,gr,hput,xCr]
set_option maxRecDepth 100000 in
theorem yGU (hv : Vn i n) (ho : n.op = 2) (hi : i ≤ 64) (ha : a < 512) (hT : t < E.length) (hE : E.length ≤ 64) (gn : G[nb]? = some (.cells false false n.c)) (hro : True) (h1 : rb ≠ ro) (h2 : rb ≠ nb)
  (hq : q a = (if n.name = (E.getD t ev0).name ∧ n.args.length = (E.getD t ev0).args.length then fun j => mat j n.args (E.getD t ev0).args else fQ) a) (gr : G[rb]? = some (.cells false false (bls (rl (xAI q a))))) :
  L.loop xA6 xBY ⟨xGF s0 zt E v5 s6 s8 nb t rb a,G⟩ = L.loop xA6 xBY ⟨xGF s0 zt E v5 s6 s8 nb t rb (a + 1),G.set rb (.cells false false (bls (rl (xAI q (a + 1)))))⟩ := by
 have haI : ((a : Nat) : Int) < 512 := by omega
 have hrl : (bls (rl (xAI q a))).length = 512 := by rw [xAE,xAZ]
 have hput := xCO (r := rl (xAI q a)) (a := a) (by rw [xAZ]; exact ha) (q a)
 rw [xEm ha] at hput
 have hnv : xA7 n.z n.args = .sl n.z n.args.length (xAv n.args) := rfl
 rw [hq] at hput
 have hTI : ((t : Nat) : Int) < (E.length : Nat) := by omega
 have hea := xLd hT
 have h63 := xVv (n := n) (e := E.getD t ev0) hv.al hv.ar ha
 generalize E.getD t ev0 = e at *
 have hev : xA7 e.z e.args = .sl e.z e.args.length (xAv e.args) := rfl
 generalize (if n.name = e.name ∧ n.args.length = e.args.length then fun j => mat j n.args e.args else fQ) a = b at *
 unfold Nd.c at h63
 unfold evC at h63 hea
 rw [hnv,hev,ho] at h63
 rw [hev] at hea
 have h63 : L.pcall 63 [.agg [.int .u8 2,.int .i64 n.name,.sl n.z n.args.length (xAv n.args),.int .i64 n.x,.int .i64 n.a,.int .i64 n.b],.agg [.int .i64 e.name,.sl e.z e.args.length (xAv e.args)],.int .i64 (a : Nat)] = _ := h63
 generalize bls (rl (xAI q (a + 1))) = R1 at *
 generalize bls (rl (xAI q a)) = R0 at *
 unfold Nd.c at gn
 rw [hnv,ho] at gn
 have gn : G[nb]? = some (.cells false false (.int .u8 2 :: _)) := gn
 rw [xCX]
 simp (maxSteps := 30000000) (disch := first|exact D6|fail) only [xCq,WB,haI,↓reduceIte,gn,Int.reduceEq,hea,xAl,h63,xAD,xAn,AV.cells,gr,hput,xCr]
set_option maxRecDepth 100000 in
theorem yGV (hv : Vn i n) (ho : n.op = 3) (hi : i ≤ 64) (ha : a < 512) (hT : t < E.length) (hE : E.length ≤ 64) (gn : G[nb]? = some (.cells false false n.c)) (hro : True) (h1 : rb ≠ ro) (h2 : rb ≠ nb)
  (hq : q a = decide (tvs (n.args.getD 0 0) a = tvs (n.args.getD 1 0) a)) (gr : G[rb]? = some (.cells false false (bls (rl (xAI q a))))) :
  L.loop xA6 xBY ⟨xGF s0 zt E v5 s6 s8 nb t rb a,G⟩ = L.loop xA6 xBY ⟨xGF s0 zt E v5 s6 s8 nb t rb (a + 1),G.set rb (.cells false false (bls (rl (xAI q (a + 1)))))⟩ := by
 have haI : ((a : Nat) : Int) < 512 := by omega
 have hrl : (bls (rl (xAI q a))).length = 512 := by rw [xAE,xAZ]
 have hput := xCO (r := rl (xAI q a)) (a := a) (by rw [xAZ]; exact ha) (q a)
 rw [xEm ha] at hput
 have hnv : xA7 n.z n.args = .sl n.z n.args.length (xAv n.args) := rfl
 rw [hq] at hput
 have hl2 := hv.eq ho
 have m0 : n.args.getD 0 0 ∈ n.args := by rw [List.getD_eq_getElem?_getD,List.getElem?_eq_getElem (by omega)]; exact List.getElem_mem _
 have m1 : n.args.getD 1 0 ∈ n.args := by rw [List.getD_eq_getElem?_getD,List.getElem?_eq_getElem (by omega)]; exact List.getElem_mem _
 have v0 := xL5 (hv.ar _ m0) ha
 have v1 := xL5 (hv.ar _ m1) ha
 have hat0 : xAv (List.take 1 n.args) = [AV.int .i64 (n.args.getD 0 0)] := xHp (k := 0) (by omega)
 have hat1 : xAv (List.take 1 (List.drop 1 n.args)) = [AV.int .i64 (n.args.getD 1 0)] := xHp (by omega)
 generalize tvs (n.args.getD 0 0) a = t0 at *
 generalize tvs (n.args.getD 1 0) a = t1 at *
 generalize n.args.getD 0 0 = u0 at *
 generalize n.args.getD 1 0 = u1 at *
 rw [hnv,hl2] at hnv
 generalize bls (rl (xAI q (a + 1))) = R1 at *
 generalize bls (rl (xAI q a)) = R0 at *
 unfold Nd.c at gn
 rw [show xA7 n.z n.args = .sl n.z 2 (xAv n.args) by rw [← hl2]; rfl,ho] at gn
 have gn : G[nb]? = some (.cells false false (.int .u8 3 :: _)) := gn
 rw [xCX]
 simp (maxSteps := 30000000) (disch := first|exact D6|fail) only [xCq,WB,haI,↓reduceIte,gn,Int.reduceEq,W2,hat0,v0,xAD,xAn,hat1,xAl,v1,AV.cells,gr,hput,xCr]
set_option maxRecDepth 100000 in
theorem yGW (hv : Vn i n) (ho : n.op = 4) (hi : i ≤ 64) (ha : a < 512) (hT : t < E.length) (hE : E.length ≤ 64) (gn : G[nb]? = some (.cells false false n.c)) (hro : v5 = .own false ro 0 i 1 ∧ G[ro]? = some (.cells false false (xBH V i E.length))) (h1 : rb ≠ ro) (h2 : rb ≠ nb)
  (hq : q a = !V n.a.toNat t a) (gr : G[rb]? = some (.cells false false (bls (rl (xAI q a))))) :
  L.loop xA6 xBY ⟨xGF s0 zt E v5 s6 s8 nb t rb a,G⟩ = L.loop xA6 xBY ⟨xGF s0 zt E v5 s6 s8 nb t rb (a + 1),G.set rb (.cells false false (bls (rl (xAI q (a + 1)))))⟩ := by
 have haI : ((a : Nat) : Int) < 512 := by omega
 have hrl : (bls (rl (xAI q a))).length = 512 := by rw [xAE,xAZ]
 have hput := xCO (r := rl (xAI q a)) (a := a) (by rw [xAZ]; exact ha) (q a)
 rw [xEm ha] at hput
 have hnv : xA7 n.z n.args = .sl n.z n.args.length (xAv n.args) := rfl
 rw [hq] at hput
 obtain ⟨rfl,go⟩ := hro
 have hol := xB8 V i E.length
 have hA := xAF (hv.ca (by rw [ho]; decide))
 have hna := hA.1
 have hra := xCn (V := V) (T := E.length) hA.2 (by omega)
 have hta := xBR (q := V n.a.toNat) hT
 have haa := xEl (V n.a.toNat t) ha
 have hla : (bls (rl (V n.a.toNat t))).length = 512 := by rw [xAE,xAZ]
 have hrla := xBg (V n.a.toNat) E.length
 unfold RW at hta
 have hTI : ((t : Nat) : Int) < (E.length : Nat) := by omega
 have hAI : ((n.a.toNat : Nat) : Int) < (i : Nat) := by omega
 generalize V n.a.toNat t a = x at *
 generalize bls (rl (V n.a.toNat t)) = RA at *
 generalize xA8 (V n.a.toNat) E.length = TA at *
 generalize n.a.toNat = A at *
 generalize xBH V i E.length = OUT at *
 generalize bls (rl (xAI q (a + 1))) = R1 at *
 generalize bls (rl (xAI q a)) = R0 at *
 unfold Nd.c at gn
 rw [hnv,ho,hna] at gn
 have gn : G[nb]? = some (.cells false false (.int .u8 4 :: _)) := gn
 rw [xCX]
 simp (maxSteps := 30000000) (disch := first|exact D6|fail) only [xCq,WB,haI,↓reduceIte,gn,Int.reduceEq,go,hra,hta,haa,AV.cells,gr,hput,xCr]
set_option maxRecDepth 100000 in
theorem yGX (hv : Vn i n) (ho : n.op = 5) (hi : i ≤ 64) (ha : a < 512) (hT : t < E.length) (hE : E.length ≤ 64) (gn : G[nb]? = some (.cells false false n.c)) (hro : v5 = .own false ro 0 i 1 ∧ G[ro]? = some (.cells false false (xBH V i E.length))) (h1 : rb ≠ ro) (h2 : rb ≠ nb)
  (hq : q a = (V n.a.toNat t a && V n.b.toNat t a)) (gr : G[rb]? = some (.cells false false (bls (rl (xAI q a))))) :
  L.loop xA6 xBY ⟨xGF s0 zt E v5 s6 s8 nb t rb a,G⟩ = L.loop xA6 xBY ⟨xGF s0 zt E v5 s6 s8 nb t rb (a + 1),G.set rb (.cells false false (bls (rl (xAI q (a + 1)))))⟩ := by
 have haI : ((a : Nat) : Int) < 512 := by omega
 have hrl : (bls (rl (xAI q a))).length = 512 := by rw [xAE,xAZ]
 have hput := xCO (r := rl (xAI q a)) (a := a) (by rw [xAZ]; exact ha) (q a)
 rw [xEm ha] at hput
 have hnv : xA7 n.z n.args = .sl n.z n.args.length (xAv n.args) := rfl
 rw [hq] at hput
 obtain ⟨rfl,go⟩ := hro
 have hol := xB8 V i E.length
 have hA := xAF (hv.ca (by rw [ho]; decide))
 have hna := hA.1
 have hra := xCn (V := V) (T := E.length) hA.2 (by omega)
 have hta := xBR (q := V n.a.toNat) hT
 have haa := xEl (V n.a.toNat t) ha
 have hla : (bls (rl (V n.a.toNat t))).length = 512 := by rw [xAE,xAZ]
 have hrla := xBg (V n.a.toNat) E.length
 unfold RW at hta
 have hTI : ((t : Nat) : Int) < (E.length : Nat) := by omega
 have hB := xAF (hv.cb (by rw [ho]; decide))
 have hnb := hB.1
 have hrb := xCn (V := V) (T := E.length) hB.2 (by omega)
 have htb := xBR (q := V n.b.toNat) hT
 have hab := xEl (V n.b.toNat t) ha
 have hlb : (bls (rl (V n.b.toNat t))).length = 512 := by rw [xAE,xAZ]
 have hrlb := xBg (V n.b.toNat) E.length
 unfold RW at htb
 have hAI : ((n.a.toNat : Nat) : Int) < (i : Nat) := by omega
 generalize V n.a.toNat t a = x at *
 generalize bls (rl (V n.a.toNat t)) = RA at *
 generalize xA8 (V n.a.toNat) E.length = TA at *
 generalize n.a.toNat = A at *
 have hBI : ((n.b.toNat : Nat) : Int) < (i : Nat) := by omega
 generalize V n.b.toNat t a = y at *
 generalize bls (rl (V n.b.toNat t)) = RB at *
 generalize xA8 (V n.b.toNat) E.length = TB at *
 generalize n.b.toNat = B at *
 generalize xBH V i E.length = OUT at *
 generalize bls (rl (xAI q (a + 1))) = R1 at *
 generalize bls (rl (xAI q a)) = R0 at *
 unfold Nd.c at gn
 rw [hnv,ho,hna,hnb] at gn
 have gn : G[nb]? = some (.cells false false (.int .u8 5 :: _)) := gn
 cases x with
 | true =>
  simp only [Bool.true_and,Bool.true_or] at hput
  rw [xCX]
  simp (maxSteps := 30000000) (disch := first|exact D6|fail) only [xCq,WB,haI,↓reduceIte,gn,Int.reduceEq,go,hra,hta,haa,hrb,htb,hab,AV.cells,gr,hput,xCr]
 | false =>
  simp only [Bool.false_and,Bool.false_or] at hput
  rw [xCX]
  simp (maxSteps := 30000000) (disch := first|exact D6|fail) only [xCq,WB,haI,↓reduceIte,gn,Int.reduceEq,go,hra,hta,haa,AV.cells,gr,hput,xCr]
set_option maxRecDepth 100000 in
theorem yGY (hv : Vn i n) (ho : n.op = 6) (hi : i ≤ 64) (ha : a < 512) (hT : t < E.length) (hE : E.length ≤ 64) (gn : G[nb]? = some (.cells false false n.c)) (hro : v5 = .own false ro 0 i 1 ∧ G[ro]? = some (.cells false false (xBH V i E.length))) (h1 : rb ≠ ro) (h2 : rb ≠ nb)
  (hq : q a = (V n.a.toNat t a || V n.b.toNat t a)) (gr : G[rb]? = some (.cells false false (bls (rl (xAI q a))))) :
  L.loop xA6 xBY ⟨xGF s0 zt E v5 s6 s8 nb t rb a,G⟩ = L.loop xA6 xBY ⟨xGF s0 zt E v5 s6 s8 nb t rb (a + 1),G.set rb (.cells false false (bls (rl (xAI q (a + 1)))))⟩ := by
 have haI : ((a : Nat) : Int) < 512 := by omega
 have hrl : (bls (rl (xAI q a))).length = 512 := by rw [xAE,xAZ]
 have hput := xCO (r := rl (xAI q a)) (a := a) (by rw [xAZ]; exact ha) (q a)
 rw [xEm ha] at hput
 have hnv : xA7 n.z n.args = .sl n.z n.args.length (xAv n.args) := rfl
 rw [hq] at hput
 obtain ⟨rfl,go⟩ := hro
 have hol := xB8 V i E.length
 have hA := xAF (hv.ca (by rw [ho]; decide))
 have hna := hA.1
 have hra := xCn (V := V) (T := E.length) hA.2 (by omega)
 have hta := xBR (q := V n.a.toNat) hT
 have haa := xEl (V n.a.toNat t) ha
 have hla : (bls (rl (V n.a.toNat t))).length = 512 := by rw [xAE,xAZ]
 have hrla := xBg (V n.a.toNat) E.length
 unfold RW at hta
 have hTI : ((t : Nat) : Int) < (E.length : Nat) := by omega
 have hB := xAF (hv.cb (by rw [ho]; decide))
 have hnb := hB.1
 have hrb := xCn (V := V) (T := E.length) hB.2 (by omega)
 have htb := xBR (q := V n.b.toNat) hT
 have hab := xEl (V n.b.toNat t) ha
 have hlb : (bls (rl (V n.b.toNat t))).length = 512 := by rw [xAE,xAZ]
 have hrlb := xBg (V n.b.toNat) E.length
 unfold RW at htb
 have hAI : ((n.a.toNat : Nat) : Int) < (i : Nat) := by omega
 generalize V n.a.toNat t a = x at *
 generalize bls (rl (V n.a.toNat t)) = RA at *
 generalize xA8 (V n.a.toNat) E.length = TA at *
 generalize n.a.toNat = A at *
 have hBI : ((n.b.toNat : Nat) : Int) < (i : Nat) := by omega
 generalize V n.b.toNat t a = y at *
 generalize bls (rl (V n.b.toNat t)) = RB at *
 generalize xA8 (V n.b.toNat) E.length = TB at *
 generalize n.b.toNat = B at *
 generalize xBH V i E.length = OUT at *
 generalize bls (rl (xAI q (a + 1))) = R1 at *
 generalize bls (rl (xAI q a)) = R0 at *
 unfold Nd.c at gn
 rw [hnv,ho,hna,hnb] at gn
 have gn : G[nb]? = some (.cells false false (.int .u8 6 :: _)) := gn
 cases x with
 | true =>
  simp only [Bool.true_and,Bool.true_or] at hput
  rw [xCX]
  simp (maxSteps := 30000000) (disch := first|exact D6|fail) only [xCq,WB,haI,↓reduceIte,gn,Int.reduceEq,go,hra,hta,haa,AV.cells,gr,hput,xCr]
 | false =>
  simp only [Bool.false_and,Bool.false_or] at hput
  rw [xCX]
  simp (maxSteps := 30000000) (disch := first|exact D6|fail) only [xCq,WB,haI,↓reduceIte,gn,Int.reduceEq,go,hra,hta,haa,hrb,htb,hab,AV.cells,gr,hput,xCr]
set_option maxRecDepth 100000 in
theorem yFp (hv : Vn i n) (ho : n.op = 8) (hi : i ≤ 64) (ha : a < 512) (hT : t < E.length) (hE : E.length ≤ 64) (gn : G[nb]? = some (.cells false false n.c)) (hro : True) (h1 : rb ≠ ro) (h2 : rb ≠ nb)
  (hq : t = 0 ∧ q a = false) (gr : G[rb]? = some (.cells false false (bls (rl (xAI q a))))) :
  L.loop xA6 xBY ⟨xGF s0 zt E v5 s6 s8 nb t rb a,G⟩ = L.loop xA6 xBY ⟨xGF s0 zt E v5 s6 s8 nb t rb (a + 1),G.set rb (.cells false false (bls (rl (xAI q (a + 1)))))⟩ := by
 have haI : ((a : Nat) : Int) < 512 := by omega
 have hrl : (bls (rl (xAI q a))).length = 512 := by rw [xAE,xAZ]
 have hput := xCO (r := rl (xAI q a)) (a := a) (by rw [xAZ]; exact ha) (q a)
 rw [xEm ha] at hput
 have hnv : xA7 n.z n.args = .sl n.z n.args.length (xAv n.args) := rfl
 obtain ⟨ht0,hq⟩ := hq
 rw [hq] at hput
 generalize bls (rl (xAI q (a + 1))) = R1 at *
 generalize bls (rl (xAI q a)) = R0 at *
 subst ht0
 unfold Nd.c at gn
 rw [hnv,ho] at gn
 have gn : G[nb]? = some (.cells false false (.int .u8 8 :: _)) := gn
 rw [xCX]
 simp (maxSteps := 30000000) (disch := first|exact D6|fail) only [xCq,WB,haI,↓reduceIte,gn,Int.reduceEq,AV.cells,gr,hput,xCr]
 rfl
set_option maxRecDepth 100000 in
theorem yFq (hv : Vn i n) (ho : n.op = 8) (hi : i ≤ 64) (ha : a < 512) (hT : t < E.length) (hE : E.length ≤ 64) (gn : G[nb]? = some (.cells false false n.c)) (hro : v5 = .own false ro 0 i 1 ∧ G[ro]? = some (.cells false false (xBH V i E.length))) (h1 : rb ≠ ro) (h2 : rb ≠ nb)
  (hq : 0 < t ∧ q a = V n.a.toNat (t - 1) a) (gr : G[rb]? = some (.cells false false (bls (rl (xAI q a))))) :
  L.loop xA6 xBY ⟨xGF s0 zt E v5 s6 s8 nb t rb a,G⟩ = L.loop xA6 xBY ⟨xGF s0 zt E v5 s6 s8 nb t rb (a + 1),G.set rb (.cells false false (bls (rl (xAI q (a + 1)))))⟩ := by
 have haI : ((a : Nat) : Int) < 512 := by omega
 have hrl : (bls (rl (xAI q a))).length = 512 := by rw [xAE,xAZ]
 have hput := xCO (r := rl (xAI q a)) (a := a) (by rw [xAZ]; exact ha) (q a)
 rw [xEm ha] at hput
 have hnv : xA7 n.z n.args = .sl n.z n.args.length (xAv n.args) := rfl
 obtain ⟨ht0,hq⟩ := hq
 rw [hq] at hput
 obtain ⟨rfl,go⟩ := hro
 have hol := xB8 V i E.length
 have hT1 : t - 1 < E.length := by omega
 have hA := xAF (hv.ca (by rw [ho]; decide))
 have hna := hA.1
 have hra := xCn (V := V) (T := E.length) hA.2 (by omega)
 have hta := xBR (q := V n.a.toNat) hT1
 have haa := xEl (V n.a.toNat (t - 1)) ha
 have hla : (bls (rl (V n.a.toNat (t - 1)))).length = 512 := by rw [xAE,xAZ]
 have hrla := xBg (V n.a.toNat) E.length
 unfold RW at hta
 have hTI : ((t - 1 : Nat) : Int) < (E.length : Nat) := by omega
 have h0I : (0 : Int) < (t : Nat) := by omega
 have hs1 : ((t : Nat) : Int) - 1 = ((t - 1 : Nat) : Int) := by omega
 have hAI : ((n.a.toNat : Nat) : Int) < (i : Nat) := by omega
 generalize V n.a.toNat (t - 1) a = x at *
 generalize bls (rl (V n.a.toNat (t - 1))) = RA at *
 generalize xA8 (V n.a.toNat) E.length = TA at *
 generalize n.a.toNat = A at *
 generalize xBH V i E.length = OUT at *
 generalize bls (rl (xAI q (a + 1))) = R1 at *
 generalize bls (rl (xAI q a)) = R0 at *
 unfold Nd.c at gn
 rw [hnv,ho,hna] at gn
 have gn : G[nb]? = some (.cells false false (.int .u8 8 :: _)) := gn
 rw [xCX]
 simp (maxSteps := 30000000) (disch := first|exact D6|fail) only [xCq,WB,haI,↓reduceIte,gn,Int.reduceEq,h0I,go,hra,hs1,hta,haa,AV.cells,gr,hput,xCr]
end
def xMo (q : Nat → Q) (a v : Nat) : Bool := (List.range v).any fun w => q w a
theorem xJi (q : Nat → Q) (a v : Nat) : xMo q a (v + 1) = (xMo q a v || q v a) := by
 unfold xMo
 rw [List.range_succ,List.any_append]; simp
def snV (A B : Nat → Q) (a : Nat) : Nat → Bool
 | 0 => false
 | m + 1 => B m a || (A m a && snV A B a m)
theorem xEr (q : Q) (a : Nat) : (rl (xAI q a)).set a false = rl (xAI q a) := by
 refine List.ext_getElem (by simp) fun b q1 q2 => ?_
 rw [List.getElem_set]
 by_cases c : a = b
 ·subst c
  rw [if_pos rfl]
  simp [rl,xAI]
 ·rw [if_neg c]
section
variable {n : Nd} {V : Nat → Nat → Q} {q : Q} {ro rb nb i t T a A B x : Nat} {r : List Bool} {E : List Ev} {zt : Bool} {s0 s1 v5 s6 s8 : AV}
set_option maxRecDepth 100000 in
theorem yBu (hx : x = 8 ∨ x = 9 ∨ x = 10) (hnx : n.x = (x : Nat)) (hna : n.a = (A : Nat)) (hA : A < i) (hT : t < T) (ha : a < 512) (hr : r.length = 512) (hi : i ≤ 64) (hT64 : T ≤ 64) (h1 : rb ≠ ro) (h2 : rb ≠ nb) : ∀ k v,v + k = 8 → ∀ G : Heap,
  G[nb]? = some (.cells false false n.c) → G[ro]? = some (.cells false false (xBH V i T)) → G[rb]? = some (.cells false false (bls (r.set a (avQ x (V A t) a v)))) →
  L.loop xKY xU8 ⟨xKZ s0 s1 (.own false ro 0 i 1) s6 (.ptr nb 0) s8 (.int .i64 (t : Nat)) (.own false rb 0 512 1) (.int .i64 (a : Nat)) (.int .i64 (v : Nat)),G⟩ =
   some (.exit 9,⟨xKZ s0 s1 (.own false ro 0 i 1) s6 (.ptr nb 0) s8 (.int .i64 (t : Nat)) (.own false rb 0 512 1) (.int .i64 (a : Nat)) (.int .i64 8),G.set rb (.cells false false (bls (r.set a (avQ x (V A t) a 8))))⟩) := by
 have hnv : xA7 n.z n.args = .sl n.z n.args.length (xAv n.args) := rfl
 have hra := xCn (V := V) (T := T) hA (by omega)
 have hta := xBR (q := V A) hT
 have hol := xB8 V i T
 have hrla := xBg (V A) T
 unfold RW at hta
 generalize V A t = q at *
 intro k
 induction k with
 | zero =>
  intro v hv G gn go gr
  obtain rfl : v = 8 := by omega
  have hset : G.set rb (.cells false false (bls (r.set a (avQ x q a 8)))) = G := by
   obtain ⟨hk,hx⟩ := List.getElem?_eq_some_iff.1 gr
   rw [← hx,List.set_getElem_self]
  rw [hset,xU9]
  simp (maxSteps := 30000000) (disch := first|exact D6|fail) only [xN2,WB,↓reduceIte,xQ9]
  try rfl
 | succ k ih =>
  intro v hv G gn go gr
  have hvI : ((v : Nat) : Int) < 8 := by omega
  have lr := xAQ gr
  have h65 := yCD hx ha (show v < 8 by omega)
  have hw := xY5 (x := x) ha (show v < 8 by omega)
  have hat := xEl q hw
  have hrl : (bls (rl q)).length = 512 := by rw [xAE,xAZ]
  have hgr := xC6 (l := r.set a (avQ x q a v)) (k := a) (by simp; omega)
  have hga : (r.set a (avQ x q a v)).getD a false = avQ x q a v := by
   rw [List.getD_eq_getElem?_getD,List.getElem?_set_self (by omega)]; rfl
  rw [hga] at hgr
  have hgl : (bls (r.set a (avQ x q a v))).length = 512 := by rw [xAE,List.length_set,hr]
  have hput := xCO (r := r.set a (avQ x q a v)) (a := a) (by simp; omega) (avQ x q a (v + 1))
  rw [List.set_set] at hput
  have e1 := ih (v + 1) (by omega) (G.set rb (.cells false false (bls (r.set a (avQ x q a (v + 1)))))) (by rw [xBG h2]; exact gn) (by rw [xBG h1]; exact go) (xDH lr)
  rw [List.set_set] at e1
  have haI : ((a : Nat) : Int) < 512 := by omega
  have hwI : ((wth x a v : Nat) : Int) < 512 := by omega
  have hAI : ((A : Nat) : Int) < (i : Nat) := by omega
  have hTI : ((t : Nat) : Int) < (T : Nat) := by omega
  have hs := xXC x q a v
  clear ih
  unfold Nd.c at gn
  rw [hnv,hnx,hna] at gn
  generalize wth x a v = w at *
  generalize bls (rl q) = RB at *
  generalize xA8 (V A) T = TA at *
  generalize xBH V i T = RS at *
  generalize avQ x q a (v + 1) = b1 at *
  generalize bls (r.set a b1) = R1 at *
  generalize bls (r.set a (avQ x q a v)) = R0 at *
  cases hb : avQ x q a v with
  | true =>
   rw [hb] at hgr hs
   simp only [Bool.true_or] at hs
   subst hs
   rw [xU9]
   simp (maxSteps := 30000000) (disch := first|exact D6|fail) only [xN2,WB,hvI,↓reduceIte,gr,hgr,xAl,AV.cells,hput,xQ9,e1]
  | false =>
   rw [hb] at hgr hs
   simp only [Bool.false_or] at hs
   rw [hs] at hput
   rw [xU9]
   simp (maxSteps := 30000000) (disch := first|exact D6|fail) only [xN2,WB,hvI,↓reduceIte,gr,hgr,gn,go,hra,hta,h65,xAD,xAn,xAl,hat,AV.cells,hput,xQ9,e1]
set_option maxRecDepth 100000 in
theorem yBv (hna : n.a = (A : Nat)) (hA : A < i) (hT : t < T) (ha : a < 512) (hr : r.length = 512) (hi : i ≤ 64) (hT64 : T ≤ 64) (h1 : rb ≠ ro) (h2 : rb ≠ nb) : ∀ k v,v + k = t + 1 → ∀ G : Heap,
  G[nb]? = some (.cells false false n.c) → G[ro]? = some (.cells false false (xBH V i T)) → G[rb]? = some (.cells false false (bls (r.set a (xMo (V A) a v)))) →
  L.loop xK0 xVa ⟨xK1 s0 s1 (.own false ro 0 i 1) s6 (.ptr nb 0) s8 (.int .i64 (t : Nat)) (.own false rb 0 512 1) (.int .i64 (a : Nat)) (.int .i64 (v : Nat)),G⟩ =
   some (.exit 11,⟨xK1 s0 s1 (.own false ro 0 i 1) s6 (.ptr nb 0) s8 (.int .i64 (t : Nat)) (.own false rb 0 512 1) (.int .i64 (a : Nat)) (.int .i64 (t + 1 : Nat)),G.set rb (.cells false false (bls (r.set a (xMo (V A) a (t + 1)))))⟩) := by
 have hnv : xA7 n.z n.args = .sl n.z n.args.length (xAv n.args) := rfl
 have hra := xCn (V := V) (T := T) hA (by omega)
 have hol := xB8 V i T
 have hrla := xBg (V A) T
 intro k
 induction k with
 | zero =>
  intro v hv G gn go gr
  obtain rfl : v = t + 1 := by omega
  have hset : G.set rb (.cells false false (bls (r.set a (xMo (V A) a (t + 1))))) = G := by
   obtain ⟨hk,hx⟩ := List.getElem?_eq_some_iff.1 gr
   rw [← hx,List.set_getElem_self]
  have hn : ¬ (((t + 1 : Nat) : Int) ≤ ((t : Nat) : Int)) := by omega
  rw [hset,xVb]
  simp (maxSteps := 30000000) (disch := first|exact D6|fail) only [xN3,WB,hn,↓reduceIte,xRa]
  try rfl
 | succ k ih =>
  intro v hv G gn go gr
  have hvI : ((v : Nat) : Int) ≤ (t : Nat) := by omega
  have hvT : v < T := by omega
  have lr := xAQ gr
  have hta := xBR (q := V A) hvT
  unfold RW at hta
  have hat := xEl (V A v) ha
  have hrl : (bls (rl (V A v))).length = 512 := by rw [xAE,xAZ]
  have hgr := xC6 (l := r.set a (xMo (V A) a v)) (k := a) (by simp; omega)
  have hga : (r.set a (xMo (V A) a v)).getD a false = xMo (V A) a v := by
   rw [List.getD_eq_getElem?_getD,List.getElem?_set_self (by omega)]; rfl
  rw [hga] at hgr
  have hgl : (bls (r.set a (xMo (V A) a v))).length = 512 := by rw [xAE,List.length_set,hr]
  have hput := xCO (r := r.set a (xMo (V A) a v)) (a := a) (by simp; omega) (xMo (V A) a (v + 1))
  rw [List.set_set] at hput
  have e1 := ih (v + 1) (by omega) (G.set rb (.cells false false (bls (r.set a (xMo (V A) a (v + 1)))))) (by rw [xBG h2]; exact gn) (by rw [xBG h1]; exact go) (xDH lr)
  rw [List.set_set] at e1
  have haI : ((a : Nat) : Int) < 512 := by omega
  have hAI : ((A : Nat) : Int) < (i : Nat) := by omega
  have hTI : ((v : Nat) : Int) < (T : Nat) := by omega
  have hs := xJi (V A) a v
  clear ih
  unfold Nd.c at gn
  rw [hnv,hna] at gn
  generalize V A v a = bv at *
  generalize bls (rl (V A v)) = RB at *
  generalize xA8 (V A) T = TA at *
  generalize xBH V i T = RS at *
  generalize xMo (V A) a (v + 1) = b1 at *
  generalize xMo (V A) a v = b0 at *
  generalize bls (r.set a b1) = R1 at *
  generalize bls (r.set a b0) = R0 at *
  cases b0 with
  | true =>
   simp only [Bool.true_or] at hs
   subst hs
   rw [xVb]
   simp (maxSteps := 30000000) (disch := first|exact D6|fail) only [xN3,WB,hvI,↓reduceIte,gr,hgr,AV.cells,hput,xRa,e1]
  | false =>
   simp only [Bool.false_or] at hs
   rw [hs] at hput
   rw [xVb]
   simp (maxSteps := 30000000) (disch := first|exact D6|fail) only [xN3,WB,hvI,↓reduceIte,gr,hgr,gn,go,hra,hta,hat,AV.cells,hput,xRa,e1]
set_option maxRecDepth 100000 in
theorem xYb (ha : a < 512) (hr : r.length = 512) (j : Int) {G : Heap} (gr : G[rb]? = some (.cells false false (bls (r.set a true)))) :
  L.loop xG2 xPi ⟨xFK s0 s1 v5 s6 (.ptr nb 0) s8 (.int .i64 (t : Nat)) (.own false rb 0 512 1) (.int .i64 (a : Nat)) (.int .i64 j),G⟩ = some (.exit 7,⟨xFK s0 s1 v5 s6 (.ptr nb 0) s8 (.int .i64 (t : Nat)) (.own false rb 0 512 1) (.int .i64 (a : Nat)) (.int .i64 j),G⟩) := by
 have hgr := xC6 (l := r.set a true) (k := a) (by simp; omega)
 have hga : (r.set a true).getD a false = true := by
  rw [List.getD_eq_getElem?_getD,List.getElem?_set_self (by omega)]; rfl
 rw [hga] at hgr
 have hgl : (bls (r.set a true)).length = 512 := by rw [xAE,List.length_set,hr]
 have haI : ((a : Nat) : Int) < 512 := by omega
 generalize bls (r.set a true) = R0 at *
 by_cases c : 0 ≤ j
 ·rw [xIH]
  simp (maxSteps := 30000000) (disch := first|exact D6|fail) only [xFJ,WB,c,↓reduceIte,gr,hgr,xG3]
 ·rw [xIH]
  simp (maxSteps := 30000000) (disch := first|exact D6|fail) only [xFJ,WB,c,↓reduceIte,xG3]
set_option maxRecDepth 100000 in
theorem yBw (hna : n.a = (A : Nat)) (hnb : n.b = (B : Nat)) (hA : A < i) (hB : B < i) (hT : t < T) (ha : a < 512) (hr : r.length = 512) (hi : i ≤ 64) (hT64 : T ≤ 64) (h1 : rb ≠ ro) (h2 : rb ≠ nb) : ∀ m,m ≤ t + 1 → ∀ G : Heap,
  G[nb]? = some (.cells false false n.c) → G[ro]? = some (.cells false false (xBH V i T)) → G[rb]? = some (.cells false false (bls (r.set a false))) → ∃ j' : Int,
  L.loop xG2 xPi ⟨xFK s0 s1 (.own false ro 0 i 1) s6 (.ptr nb 0) s8 (.int .i64 (t : Nat)) (.own false rb 0 512 1) (.int .i64 (a : Nat)) (.int .i64 ((m : Nat) - 1)),G⟩ =
   some (.exit 7,⟨xFK s0 s1 (.own false ro 0 i 1) s6 (.ptr nb 0) s8 (.int .i64 (t : Nat)) (.own false rb 0 512 1) (.int .i64 (a : Nat)) (.int .i64 j'),G.set rb (.cells false false (bls (r.set a (snV (V A) (V B) a m))))⟩) := by
 have hnv : xA7 n.z n.args = .sl n.z n.args.length (xAv n.args) := rfl
 have hra := xCn (V := V) (T := T) hA (by omega)
 have hrb := xCn (V := V) (T := T) hB (by omega)
 have hol := xB8 V i T
 have hrla := xBg (V A) T
 have hrlb := xBg (V B) T
 intro m
 induction m with
 | zero =>
  intro hm G gn go gr
  have hset : G.set rb (.cells false false (bls (r.set a (snV (V A) (V B) a 0)))) = G := by
   obtain ⟨hk,hx⟩ := List.getElem?_eq_some_iff.1 gr
   rw [show snV (V A) (V B) a 0 = false from rfl,← hx,List.set_getElem_self]
  refine ⟨-1,?_⟩
  rw [hset]
  show L.loop xG2 xPi ⟨xFK s0 s1 (.own false ro 0 i 1) s6 (.ptr nb 0) s8 (.int .i64 (t : Nat)) (.own false rb 0 512 1) (.int .i64 (a : Nat)) (.int .i64 (-1)),G⟩ = _
  have hn : ¬ ((0 : Int) ≤ -1) := by omega
  rw [xIH]
  simp (maxSteps := 30000000) (disch := first|exact D6|fail) only [xFJ,Int.reduceNeg,WB,hn,↓reduceIte,xG3]
 | succ m ih =>
  intro hm G gn go gr
  have hmI : (((m + 1 : Nat) : Int) - 1) = ((m : Nat) : Int) := by omega
  rw [hmI]
  have h0I : (0 : Int) ≤ ((m : Nat) : Int) := by omega
  have hmT : m < T := by omega
  have lr := xAQ gr
  have hta := xBR (q := V A) hmT
  have htb := xBR (q := V B) hmT
  unfold RW at hta htb
  have hata := xEl (V A m) ha
  have hatb := xEl (V B m) ha
  have hrl1 : (bls (rl (V A m))).length = 512 := by rw [xAE,xAZ]
  have hrl2 : (bls (rl (V B m))).length = 512 := by rw [xAE,xAZ]
  have hgr := xC6 (l := r.set a false) (k := a) (by simp; omega)
  have hga : (r.set a false).getD a false = false := by
   rw [List.getD_eq_getElem?_getD,List.getElem?_set_self (by omega)]; rfl
  rw [hga] at hgr
  have hgl : (bls (r.set a false)).length = 512 := by rw [xAE,List.length_set,hr]
  have hput := xCO (r := r.set a false) (a := a) (by simp; omega) (V B m a)
  rw [List.set_set] at hput
  have haI : ((a : Nat) : Int) < 512 := by omega
  have hAI : ((A : Nat) : Int) < (i : Nat) := by omega
  have hBI : ((B : Nat) : Int) < (i : Nat) := by omega
  have hTI : ((m : Nat) : Int) < (T : Nat) := by omega
  have hs : snV (V A) (V B) a (m + 1) = (V B m a || (V A m a && snV (V A) (V B) a m)) := rfl
  have hd : (xBH V i T).length = i := hol
  have lset : G.set rb (.cells false false (bls (r.set a false))) = G := by
   obtain ⟨hk,hx⟩ := List.getElem?_eq_some_iff.1 gr
   rw [← hx,List.set_getElem_self]
  have ih' := ih (by omega) G gn go gr
  have et := fun j : Int => xYb (s0 := s0) (s1 := s1) (v5 := .own false ro 0 i 1) (s6 := s6) (s8 := s8) (nb := nb) (t := t) ha hr j (G := G.set rb (.cells false false (bls (r.set a true)))) (xDH lr)
  clear ih
  unfold Nd.c at gn
  rw [hnv,hna,hnb] at gn
  rw [hs]
  cases hb : V B m a with
  | true =>
   rw [hb] at hatb hput
   simp only [Bool.true_or]
   generalize bls (rl (V A m)) = RA at *
   generalize bls (rl (V B m)) = RB at *
   generalize xA8 (V A) T = TA at *
   generalize xA8 (V B) T = TB at *
   generalize xBH V i T = RS at *
   generalize bls (r.set a true) = R1 at *
   generalize bls (r.set a false) = R0 at *
   cases hav : V A m a with
   | true =>
    rw [hav] at hata
    refine ⟨((m : Nat) : Int) - 1,?_⟩
    rw [xIH]
    simp (maxSteps := 30000000) (disch := first|exact D6|fail) only [xFJ,WB,h0I,↓reduceIte,gr,hgr,gn,go,hrb,htb,hatb,AV.cells,hput,xBG,hra,hta,hata,xG3,et]
   | false =>
    rw [hav] at hata
    refine ⟨((m : Nat) : Int),?_⟩
    rw [xIH]
    simp (maxSteps := 30000000) (disch := first|exact D6|fail) only [xFJ,WB,h0I,↓reduceIte,gr,hgr,gn,go,hrb,htb,hatb,AV.cells,hput,xBG,hra,hta,hata,Nat.reduceEqDiff,xG3]
  | false =>
   rw [hb] at hatb hput
   simp only [Bool.false_or]
   cases hav : V A m a with
   | true =>
    rw [hav] at hata
    simp only [Bool.true_and]
    obtain ⟨j',e1⟩ := ih'
    refine ⟨j',?_⟩
    generalize snV (V A) (V B) a m = sb at *
    generalize bls (rl (V A m)) = RA at *
    generalize bls (rl (V B m)) = RB at *
    generalize xA8 (V A) T = TA at *
    generalize xA8 (V B) T = TB at *
    generalize xBH V i T = RS at *
    generalize bls (r.set a sb) = R1 at *
    generalize bls (r.set a false) = R0 at *
    rw [xIH]
    simp (maxSteps := 30000000) (disch := first|exact D6|fail) only [xFJ,WB,h0I,↓reduceIte,gr,hgr,gn,go,hrb,htb,hatb,AV.cells,hput,lset,hra,hta,hata,xG3,e1]
   | false =>
    rw [hav] at hata
    simp only [Bool.false_and]
    refine ⟨((m : Nat) : Int),?_⟩
    generalize bls (rl (V A m)) = RA at *
    generalize bls (rl (V B m)) = RB at *
    generalize xA8 (V A) T = TA at *
    generalize xA8 (V B) T = TB at *
    generalize xBH V i T = RS at *
    generalize bls (r.set a false) = R0 at *
    rw [xIH]
    simp (maxSteps := 30000000) (disch := first|exact D6|fail) only [xFJ,WB,h0I,↓reduceIte,gr,hgr,gn,go,hrb,htb,hatb,AV.cells,hput,lset,hra,hta,hata,Nat.reduceEqDiff,xG3]
end
section
variable {n : Nd} {V : Nat → Nat → Q} {q : Q} {G : Heap} {ro rb nb i t a : Nat} {E : List Ev} {zt : Bool} {s0 v5 s6 s8 : AV}
set_option maxRecDepth 100000 in
theorem yGZ (hv : Vn i n) (ho : n.op = 7) (hi : i ≤ 64) (ha : a < 512) (hT : t < E.length) (hE : E.length ≤ 64) (gn : G[nb]? = some (.cells false false n.c)) (hro : v5 = .own false ro 0 i 1 ∧ G[ro]? = some (.cells false false (xBH V i E.length))) (h1 : rb ≠ ro) (h2 : rb ≠ nb)
  (hq : q a = avQ n.x.toNat (V n.a.toNat t) a 8) (gr : G[rb]? = some (.cells false false (bls (rl (xAI q a))))) :
  L.loop xA6 xBY ⟨xGF s0 zt E v5 s6 s8 nb t rb a,G⟩ = L.loop xA6 xBY ⟨xGF s0 zt E v5 s6 s8 nb t rb (a + 1),G.set rb (.cells false false (bls (rl (xAI q (a + 1)))))⟩ := by
 have haI : ((a : Nat) : Int) < 512 := by omega
 obtain ⟨rfl,go⟩ := hro
 have hnv : xA7 n.z n.args = .sl n.z n.args.length (xAv n.args) := rfl
 have hA := xAF (hv.ca (by rw [ho]; decide))
 have hx := hv.ex ho
 have e1 := yBu (V := V) (s0 := s0) (s1 := .sl zt E.length (evs E)) (s6 := s6) (s8 := s8) (x := n.x.toNat) (A := n.a.toNat) (T := E.length) (r := rl (xAI q a)) (show n.x.toNat = 8 ∨ n.x.toNat = 9 ∨ n.x.toNat = 10 by omega) (by omega) hA.1 hA.2 hT ha (xAZ _) hi hE h1 h2 8 0 rfl G gn go (by rw [show avQ n.x.toNat (V n.a.toNat t) a 0 = false from rfl,xEr]; exact gr)
 rw [← hq,xEm ha] at e1
 have e1' : L.loop xKY xU8 ⟨xKZ s0 (.sl zt E.length (evs E)) (.own false ro 0 i 1) s6 (.ptr nb 0) s8 (.int .i64 (t : Nat)) (.own false rb 0 512 1) (.int .i64 (a : Nat)) (.int .i64 0),G⟩ = _ := e1
 generalize bls (rl (xAI q (a + 1))) = R1 at *
 unfold Nd.c at gn
 rw [hnv,ho] at gn
 have gn : G[nb]? = some (.cells false false (.int .u8 7 :: _)) := gn
 rw [xCX]
 simp (maxSteps := 30000000) (disch := first|exact D6|fail) only [xCq,WB,haI,↓reduceIte,gn,Int.reduceEq,xQ9,e1',xCr]
set_option maxRecDepth 100000 in
theorem yFr (hv : Vn i n) (ho : n.op = 10) (hi : i ≤ 64) (ha : a < 512) (hT : t < E.length) (hE : E.length ≤ 64) (gn : G[nb]? = some (.cells false false n.c)) (hro : v5 = .own false ro 0 i 1 ∧ G[ro]? = some (.cells false false (xBH V i E.length))) (h1 : rb ≠ ro) (h2 : rb ≠ nb)
  (hq : q a = xMo (V n.a.toNat) a (t + 1)) (gr : G[rb]? = some (.cells false false (bls (rl (xAI q a))))) :
  L.loop xA6 xBY ⟨xGF s0 zt E v5 s6 s8 nb t rb a,G⟩ = L.loop xA6 xBY ⟨xGF s0 zt E v5 s6 s8 nb t rb (a + 1),G.set rb (.cells false false (bls (rl (xAI q (a + 1)))))⟩ := by
 have haI : ((a : Nat) : Int) < 512 := by omega
 obtain ⟨rfl,go⟩ := hro
 have hnv : xA7 n.z n.args = .sl n.z n.args.length (xAv n.args) := rfl
 have hA := xAF (hv.ca (by rw [ho]; decide))
 have e1 := yBv (V := V) (s0 := s0) (s1 := .sl zt E.length (evs E)) (s6 := s6) (s8 := s8) (A := n.a.toNat) (T := E.length) (r := rl (xAI q a)) hA.1 hA.2 hT ha (xAZ _) hi hE h1 h2 (t + 1) 0 (by omega) G gn go (by rw [show xMo (V n.a.toNat) a 0 = false from rfl,xEr]; exact gr)
 rw [← hq,xEm ha] at e1
 have e1' : L.loop xK0 xVa ⟨xK1 s0 (.sl zt E.length (evs E)) (.own false ro 0 i 1) s6 (.ptr nb 0) s8 (.int .i64 (t : Nat)) (.own false rb 0 512 1) (.int .i64 (a : Nat)) (.int .i64 0),G⟩ = _ := e1
 generalize bls (rl (xAI q (a + 1))) = R1 at *
 unfold Nd.c at gn
 rw [hnv,ho] at gn
 have gn : G[nb]? = some (.cells false false (.int .u8 10 :: _)) := gn
 rw [xCX]
 simp (maxSteps := 30000000) (disch := first|exact D6|fail) only [xCq,WB,haI,↓reduceIte,gn,Int.reduceEq,xRa,e1',xCr]
set_option maxRecDepth 100000 in
theorem yG0 (hv : Vn i n) (ho : n.op = 9) (hi : i ≤ 64) (ha : a < 512) (hT : t < E.length) (hE : E.length ≤ 64) (gn : G[nb]? = some (.cells false false n.c)) (hro : v5 = .own false ro 0 i 1 ∧ G[ro]? = some (.cells false false (xBH V i E.length))) (h1 : rb ≠ ro) (h2 : rb ≠ nb)
  (hq : q a = snV (V n.a.toNat) (V n.b.toNat) a (t + 1)) (gr : G[rb]? = some (.cells false false (bls (rl (xAI q a))))) :
  L.loop xA6 xBY ⟨xGF s0 zt E v5 s6 s8 nb t rb a,G⟩ = L.loop xA6 xBY ⟨xGF s0 zt E v5 s6 s8 nb t rb (a + 1),G.set rb (.cells false false (bls (rl (xAI q (a + 1)))))⟩ := by
 have haI : ((a : Nat) : Int) < 512 := by omega
 obtain ⟨rfl,go⟩ := hro
 have hnv : xA7 n.z n.args = .sl n.z n.args.length (xAv n.args) := rfl
 have hA := xAF (hv.ca (by rw [ho]; decide))
 have hB := xAF (hv.cb (by rw [ho]; decide))
 obtain ⟨j',e1⟩ := yBw (V := V) (s0 := s0) (s1 := .sl zt E.length (evs E)) (s6 := s6) (s8 := s8) (A := n.a.toNat) (B := n.b.toNat) (T := E.length) (r := rl (xAI q a)) hA.1 hB.1 hA.2 hB.2 hT ha (xAZ _) hi hE h1 h2 (t + 1) (by omega) G gn go (by rw [xEr]; exact gr)
 rw [← hq,xEm ha,show (((t + 1 : Nat) : Int) - 1) = ((t : Nat) : Int) by omega] at e1
 have e1' : L.loop xG2 xPi ⟨xFK s0 (.sl zt E.length (evs E)) (.own false ro 0 i 1) s6 (.ptr nb 0) s8 (.int .i64 (t : Nat)) (.own false rb 0 512 1) (.int .i64 (a : Nat)) (.int .i64 (t : Nat)),G⟩ = _ := e1
 generalize bls (rl (xAI q (a + 1))) = R1 at *
 unfold Nd.c at gn
 rw [hnv,ho] at gn
 have gn : G[nb]? = some (.cells false false (.int .u8 9 :: _)) := gn
 rw [xCX]
 simp (maxSteps := 30000000) (disch := first|exact D6|fail) only [xCq,WB,haI,↓reduceIte,gn,Int.reduceEq,xG3,e1',xCr]
end
theorem yFN {n : Nd} (h : n.op = 9) (E : List Ev) (A B : Nat → Q) (a : Nat) : ∀ t,xJh n E A B t a = snV A B a t
 | 0 => rfl
 | t + 1 => by
  rw [xJh,if_neg (by omega),yFM h]
  show (B t a || (A t a && xJh n E A B t a)) = _
  rw [yFN h E A B a t]; rfl
theorem yDF {n : Nd} (h : n.op = 10) (E : List Ev) (A B : Nat → Q) (a : Nat) : ∀ t,xJh n E A B t a = xMo A a t
 | 0 => rfl
 | t + 1 => by
  rw [xJh,if_neg (by omega),yDE h]
  show (A t a || xJh n E A B t a) = _
  rw [yDF h E A B a t,xJi,Bool.or_comm]
section
variable {F : List Nd} {G : Heap} {ro rb nb i t a : Nat} {E : List Ev} {zt : Bool} {s0 v5 s6 s8 : AV}
theorem xYc (hV : ∀ j,j < F.length → Vn j (F.getD j nd0)) (hlen : F.length ≤ 64) (hi : i < F.length) (ha : a < 512) (hT : t < E.length) (hE : E.length ≤ 64) (gn : G[nb]? = some (.cells false false (F.getD i nd0).c))
  (hro : 1 ≤ chn (F.getD i nd0).op → v5 = .own false ro 0 i 1 ∧ G[ro]? = some (.cells false false (xBH (S F E) i E.length))) (h1 : rb ≠ ro) (h2 : rb ≠ nb)
  (gr : G[rb]? = some (.cells false false (bls (rl (xAI (S F E i t) a))))) :
  L.loop xA6 xBY ⟨xGF s0 zt E v5 s6 s8 nb t rb a,G⟩ = L.loop xA6 xBY ⟨xGF s0 zt E v5 s6 s8 nb t rb (a + 1),G.set rb (.cells false false (bls (rl (xAI (S F E i t) (a + 1)))))⟩ := by
 have hv := hV i hi
 have hs := congrFun (yD0 (E := E) hV hi t) a
 have hw : W F E i t = xJh (F.getD i nd0) E (S F E (F.getD i nd0).a.toNat) (S F E (F.getD i nd0).b.toNat) t := rfl
 generalize F.getD i nd0 = n at *
 have ho := hv.op
 have : n.op = 1 ∨ n.op = 2 ∨ n.op = 3 ∨ n.op = 4 ∨ n.op = 5 ∨ n.op = 6 ∨ n.op = 7 ∨ n.op = 8 ∨ n.op = 9 ∨ n.op = 10 := by omega
 rcases this with h | h | h | h | h | h | h | h | h | h
 ·exact yGT hv h (by omega) ha hT hE gn trivial h1 h2 (by rw [hs,yGL h]) gr
 ·exact yGU hv h (by omega) ha hT hE gn trivial h1 h2 (by rw [hs,yGM h]) gr
 ·exact yGV hv h (by omega) ha hT hE gn trivial h1 h2 (by rw [hs,yGN h]; show (_ == _) = _; rw [Bool.eq_iff_iff]; simp) gr
 ·exact yGW hv h (by omega) ha hT hE gn (hro (by rw [h]; decide)) h1 h2 (by rw [hs,yGO h]) gr
 ·exact yGX hv h (by omega) ha hT hE gn (hro (by rw [h]; decide)) h1 h2 (by rw [hs,yGP h]) gr
 ·exact yGY hv h (by omega) ha hT hE gn (hro (by rw [h]; decide)) h1 h2 (by rw [hs,yGQ h]) gr
 ·have hx := hv.ex h
  exact yGZ hv h (by omega) ha hT hE gn (hro (by rw [h]; decide)) h1 h2 (by rw [hs,yGR h,yCI (by omega) _ ha]) gr
 ·rw [yGS h,hw] at hs
  cases t with
  | zero => exact yFp (i := i) hv h (by omega) ha hT hE gn trivial h1 h2 ⟨rfl,hs⟩ gr
  | succ t =>
   rw [xJh,if_pos h] at hs
   exact yFq hv h (by omega) ha hT hE gn (hro (by rw [h]; decide)) h1 h2 ⟨by omega,hs⟩ gr
 ·rw [yFM h,hw] at hs
  refine yG0 hv h (by omega) ha hT hE gn (hro (by rw [h]; decide)) h1 h2 ?_ gr
  rw [hs]
  show (S F E n.b.toNat t a || (S F E n.a.toNat t a && xJh n E (S F E n.a.toNat) (S F E n.b.toNat) t a)) = _
  rw [yFN h]; rfl
 ·rw [yDE h,hw] at hs
  refine yFr hv h (by omega) ha hT hE gn (hro (by rw [h]; decide)) h1 h2 ?_ gr
  rw [hs]
  show (S F E n.a.toNat t a || xJh n E (S F E n.a.toNat) (S F E n.b.toNat) t a) = _
  rw [yDF h,xJi,Bool.or_comm]
theorem xYd (q : Q) : rl (xAI q 512) = rl q := by
 unfold rl
 refine List.map_congr_left fun a ha => ?_
 have := List.mem_range.1 ha
 simp [xAI,this]
set_option maxRecDepth 100000 in
theorem xWr (hV : ∀ j,j < F.length → Vn j (F.getD j nd0)) (hlen : F.length ≤ 64) (hi : i < F.length) (hT : t < E.length) (hE : E.length ≤ 64) (h1 : rb ≠ ro) (h2 : rb ≠ nb) : ∀ k a,a + k = 512 → ∀ G : Heap,
  G[nb]? = some (.cells false false (F.getD i nd0).c) → (1 ≤ chn (F.getD i nd0).op → v5 = .own false ro 0 i 1 ∧ G[ro]? = some (.cells false false (xBH (S F E) i E.length))) →
  G[rb]? = some (.cells false false (bls (rl (xAI (S F E i t) a)))) →
  L.loop xA6 xBY ⟨xGF s0 zt E v5 s6 s8 nb t rb a,G⟩ = some (.exit 4,⟨xGF s0 zt E v5 s6 s8 nb t rb 512,G.set rb (.cells false false (bls (rl (S F E i t))))⟩) := by
 intro k
 induction k with
 | zero =>
  intro a hk G gn hro gr
  obtain rfl : a = 512 := by omega
  rw [xYd] at gr
  have hset : G.set rb (.cells false false (bls (rl (S F E i t)))) = G := by
   obtain ⟨hk,hx⟩ := List.getElem?_eq_some_iff.1 gr
   rw [← hx,List.set_getElem_self]
  rw [hset,xCX]
  simp (maxSteps := 30000000) (disch := first|exact D6|fail) only [xCq,WB,↓reduceIte,xCr]
  try rfl
 | succ k ih =>
  intro a hk G gn hro gr
  have lr := xAQ gr
  have e1 := xYc (s0 := s0) (zt := zt) (s6 := s6) (s8 := s8) hV hlen hi (show a < 512 by omega) hT hE gn hro h1 h2 gr
  have e2 := ih (a + 1) (by omega) (G.set rb (.cells false false (bls (rl (xAI (S F E i t) (a + 1)))))) (by rw [xBG h2]; exact gn) (fun hc => ⟨(hro hc).1,by rw [xBG h1]; exact (hro hc).2⟩) (xDH lr)
  rw [List.set_set] at e2
  exact e1.trans e2
end
end Go.Abs.Events
