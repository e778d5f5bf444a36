/- The reference's truth: one assignment of a row (printed by t1gen.py). -/
import Derived.Test.YtdheandekcpieaaGreatDoorAbsBun
import Derived.Test.YtdheandekcpieaaGreatDoorAMG
import Derived.Test.YtdheandekcpieaaGreatDoorAMP
namespace Go.Abs.Events
open Go Go.Abs
set_option maxHeartbeats 8000000
set_option linter.unusedSimpArgs false
set_option linter.unusedVariables false
def xA8 (q : Nat → Q) (T : Nat) : List AV := (List.range T).map fun t => RW (q t)
def yAz (q : Nat → Q) (T : Nat) : AV := .sl (T == 0) T (xA8 q T)
def xBU (V : Nat → Nat → Q) (i T : Nat) : List AV := (List.range i).map fun j => yAz (V j) T
theorem xBf (q : Nat → Q) (T : Nat) : (xA8 q T).length = T := by simp [xA8]
theorem xB2 (V : Nat → Nat → Q) (i T : Nat) : (xBU V i T).length = i := by simp [xBU]
theorem xBV {q : Nat → Q} {T t : Nat} (h : t < T) : List.take 1 (List.drop t (xA8 q T)) = [RW (q t)] := by
 rw [List.drop_eq_getElem_cons (by simpa [xA8] using h),List.take_succ_cons,List.take_zero]
 simp [xA8]
theorem xCw {V : Nat → Nat → Q} {i T j : Nat} (h : j < i) (hT : 0 < T) : List.take 1 (List.drop j (xBU V i T)) = [.sl false T (xA8 (V j) T)] := by
 rw [List.drop_eq_getElem_cons (by simpa [xBU] using h),List.take_succ_cons,List.take_zero]
 have : (T == 0) = false := by rw [beq_eq_false_iff_ne]; omega
 simp [xBU,yAz,this]
section
variable {n : Nd} {V : Nat → Nat → Q} {q : Q} {G : Heap} {ro rb nb i t a : Nat} {E : List Ev} {zt : Bool} {s0 v5 s6 s8 : AV}
abbrev xF7 (s0 : AV) (zt : Bool) (E : List Ev) (v5 s6 s8 : AV) (nb t rb a : Nat) : List AV := xJM s0 (.sl zt E.length (evs E)) v5 s6 (.ptr nb 0) s8 (.int .i64 (t : Nat)) (.own false rb 0 512 1) (.int .i64 (a : Nat))
set_option maxRecDepth 100000 in
theorem yGj (hv : Vn i n) (ho : n.op = 1) (hi : i ≤ 64) (ha : a < 512) (hT : t < E.length) (hE : E.length ≤ 64) (gn : G[nb]? = some (.cells false false n.c)) (hro : True) (h1 : rb ≠ ro) (h2 : rb ≠ nb)
  (hq : q a = true) (gr : G[rb]? = some (.cells false false (bls (rl (xAQ q a))))) :
  L.loop xA5 xBM ⟨xF7 s0 zt E v5 s6 s8 nb t rb a,G⟩ = L.loop xA5 xBM ⟨xF7 s0 zt E v5 s6 s8 nb t rb (a + 1),G.set rb (.cells false false (bls (rl (xAQ q (a + 1)))))⟩ := by
 have haI : ((a : Nat) : Int) < 512 := by omega
 have hrl : (bls (rl (xAQ q a))).length = 512 := by rw [xAe,xA3]
 have hput := xCz (r := rl (xAQ q a)) (a := a) (by rw [xA3]; exact ha) (q a)
 rw [xDZ ha] at hput
 have hnv : xA2 n.z n.args = .sl n.z n.args.length (xAB n.args) := rfl
 rw [hq] at hput
 generalize bls (rl (xAQ q (a + 1))) = R1 at *
 generalize bls (rl (xAQ q a)) = R0 at *
 unfold Nd.c at gn
 rw [hnv,ho] at gn
 have gn : G[nb]? = some (.cells false false (.int .u8 1 :: _)) := gn
 rw [xCH]
 simp (maxSteps := 30000000) (disch := first|exact D5|fail) only [xCd,WB,haI,↓reduceIte,gn,AV.cells,gr,hput,xCe]
set_option maxRecDepth 100000 in
theorem yGk (hv : Vn i n) (ho : n.op = 2) (hi : i ≤ 64) (ha : a < 512) (hT : t < E.length) (hE : E.length ≤ 64) (gn : G[nb]? = some (.cells false false n.c)) (hro : True) (h1 : rb ≠ ro) (h2 : rb ≠ nb)
  (hq : q a = (if n.name = (E.getD t ev0).name ∧ n.args.length = (E.getD t ev0).args.length then fun j => mat j n.args (E.getD t ev0).args else fQ) a) (gr : G[rb]? = some (.cells false false (bls (rl (xAQ q a))))) :
  L.loop xA5 xBM ⟨xF7 s0 zt E v5 s6 s8 nb t rb a,G⟩ = L.loop xA5 xBM ⟨xF7 s0 zt E v5 s6 s8 nb t rb (a + 1),G.set rb (.cells false false (bls (rl (xAQ q (a + 1)))))⟩ := by
 have haI : ((a : Nat) : Int) < 512 := by omega
 have hrl : (bls (rl (xAQ q a))).length = 512 := by rw [xAe,xA3]
 have hput := xCz (r := rl (xAQ q a)) (a := a) (by rw [xA3]; exact ha) (q a)
 rw [xDZ ha] at hput
 have hnv : xA2 n.z n.args = .sl n.z n.args.length (xAB n.args) := rfl
 rw [hq] at hput
 have hTI : ((t : Nat) : Int) < (E.length : Nat) := by omega
 have hea := xDR hT
 have h63 := xVo (n := n) (e := E.getD t ev0) hv.al hv.ar ha
 generalize E.getD t ev0 = e at *
 have hev : xA2 e.z e.args = .sl e.z e.args.length (xAB e.args) := rfl
 generalize (if n.name = e.name ∧ n.args.length = e.args.length then fun j => mat j n.args e.args else fQ) a = b at *
 unfold Nd.c at h63
 unfold evC at h63 hea
 rw [hnv,hev,ho] at h63
 rw [hev] at hea
 have h63 : L.pcall 69 [.agg [.int .u8 2,.int .i64 n.name,.sl n.z n.args.length (xAB n.args),.int .i64 n.x,.int .i64 n.a,.int .i64 n.b],.agg [.int .i64 e.name,.sl e.z e.args.length (xAB e.args)],.int .i64 (a : Nat)] = _ := h63
 generalize bls (rl (xAQ q (a + 1))) = R1 at *
 generalize bls (rl (xAQ q a)) = R0 at *
 unfold Nd.c at gn
 rw [hnv,ho] at gn
 have gn : G[nb]? = some (.cells false false (.int .u8 2 :: _)) := gn
 rw [xCH]
 simp (maxSteps := 30000000) (disch := first|exact D5|fail) only [xCd,WB,haI,↓reduceIte,gn,Int.reduceEq,hea,xAn,h63,xAA,xAm,AV.cells,gr,hput,xCe]
set_option maxRecDepth 100000 in
theorem yGl (hv : Vn i n) (ho : n.op = 3) (hi : i ≤ 64) (ha : a < 512) (hT : t < E.length) (hE : E.length ≤ 64) (gn : G[nb]? = some (.cells false false n.c)) (hro : True) (h1 : rb ≠ ro) (h2 : rb ≠ nb)
  (hq : q a = decide (tvs (n.args.getD 0 0) a = tvs (n.args.getD 1 0) a)) (gr : G[rb]? = some (.cells false false (bls (rl (xAQ q a))))) :
  L.loop xA5 xBM ⟨xF7 s0 zt E v5 s6 s8 nb t rb a,G⟩ = L.loop xA5 xBM ⟨xF7 s0 zt E v5 s6 s8 nb t rb (a + 1),G.set rb (.cells false false (bls (rl (xAQ q (a + 1)))))⟩ := by
 have haI : ((a : Nat) : Int) < 512 := by omega
 have hrl : (bls (rl (xAQ q a))).length = 512 := by rw [xAe,xA3]
 have hput := xCz (r := rl (xAQ q a)) (a := a) (by rw [xA3]; exact ha) (q a)
 rw [xDZ ha] at hput
 have hnv : xA2 n.z n.args = .sl n.z n.args.length (xAB n.args) := rfl
 rw [hq] at hput
 have hl2 := hv.eq ho
 have m0 : n.args.getD 0 0 ∈ n.args := by rw [List.getD_eq_getElem?_getD,List.getElem?_eq_getElem (by omega)]; exact List.getElem_mem _
 have m1 : n.args.getD 1 0 ∈ n.args := by rw [List.getD_eq_getElem?_getD,List.getElem?_eq_getElem (by omega)]; exact List.getElem_mem _
 have v0 := xLb (hv.ar _ m0) ha
 have v1 := xLb (hv.ar _ m1) ha
 have hat0 : xAB (List.take 1 n.args) = [AV.int .i64 (n.args.getD 0 0)] := xGM (k := 0) (by omega)
 have hat1 : xAB (List.take 1 (List.drop 1 n.args)) = [AV.int .i64 (n.args.getD 1 0)] := xGM (by omega)
 generalize tvs (n.args.getD 0 0) a = t0 at *
 generalize tvs (n.args.getD 1 0) a = t1 at *
 generalize n.args.getD 0 0 = u0 at *
 generalize n.args.getD 1 0 = u1 at *
 rw [hnv,hl2] at hnv
 generalize bls (rl (xAQ q (a + 1))) = R1 at *
 generalize bls (rl (xAQ q a)) = R0 at *
 unfold Nd.c at gn
 rw [show xA2 n.z n.args = .sl n.z 2 (xAB n.args) by rw [← hl2]; rfl,ho] at gn
 have gn : G[nb]? = some (.cells false false (.int .u8 3 :: _)) := gn
 rw [xCH]
 simp (maxSteps := 30000000) (disch := first|exact D5|fail) only [xCd,WB,haI,↓reduceIte,gn,Int.reduceEq,W2,hat0,v0,xAA,xAm,hat1,xAn,v1,AV.cells,gr,hput,xCe]
set_option maxRecDepth 100000 in
theorem yGm (hv : Vn i n) (ho : n.op = 4) (hi : i ≤ 64) (ha : a < 512) (hT : t < E.length) (hE : E.length ≤ 64) (gn : G[nb]? = some (.cells false false n.c)) (hro : v5 = .own false ro 0 i 1 ∧ G[ro]? = some (.cells false false (xBU V i E.length))) (h1 : rb ≠ ro) (h2 : rb ≠ nb)
  (hq : q a = !V n.a.toNat t a) (gr : G[rb]? = some (.cells false false (bls (rl (xAQ q a))))) :
  L.loop xA5 xBM ⟨xF7 s0 zt E v5 s6 s8 nb t rb a,G⟩ = L.loop xA5 xBM ⟨xF7 s0 zt E v5 s6 s8 nb t rb (a + 1),G.set rb (.cells false false (bls (rl (xAQ q (a + 1)))))⟩ := by
 have haI : ((a : Nat) : Int) < 512 := by omega
 have hrl : (bls (rl (xAQ q a))).length = 512 := by rw [xAe,xA3]
 have hput := xCz (r := rl (xAQ q a)) (a := a) (by rw [xA3]; exact ha) (q a)
 rw [xDZ ha] at hput
 have hnv : xA2 n.z n.args = .sl n.z n.args.length (xAB n.args) := rfl
 rw [hq] at hput
 obtain ⟨rfl,go⟩ := hro
 have hol := xB2 V i E.length
 have hA := xAF (hv.ca (by rw [ho]; decide))
 have hna := hA.1
 have hra := xCw (V := V) (T := E.length) hA.2 (by omega)
 have hta := xBV (q := V n.a.toNat) hT
 have haa := xDY (V n.a.toNat t) ha
 have hla : (bls (rl (V n.a.toNat t))).length = 512 := by rw [xAe,xA3]
 have hrla := xBf (V n.a.toNat) E.length
 unfold RW at hta
 have hTI : ((t : Nat) : Int) < (E.length : Nat) := by omega
 have hAI : ((n.a.toNat : Nat) : Int) < (i : Nat) := by omega
 generalize V n.a.toNat t a = x at *
 generalize bls (rl (V n.a.toNat t)) = RA at *
 generalize xA8 (V n.a.toNat) E.length = TA at *
 generalize n.a.toNat = A at *
 generalize xBU V i E.length = OUT at *
 generalize bls (rl (xAQ q (a + 1))) = R1 at *
 generalize bls (rl (xAQ q a)) = R0 at *
 unfold Nd.c at gn
 rw [hnv,ho,hna] at gn
 have gn : G[nb]? = some (.cells false false (.int .u8 4 :: _)) := gn
 rw [xCH]
 simp (maxSteps := 30000000) (disch := first|exact D5|fail) only [xCd,WB,haI,↓reduceIte,gn,Int.reduceEq,go,hra,hta,haa,AV.cells,gr,hput,xCe]
set_option maxRecDepth 100000 in
theorem yGn (hv : Vn i n) (ho : n.op = 5) (hi : i ≤ 64) (ha : a < 512) (hT : t < E.length) (hE : E.length ≤ 64) (gn : G[nb]? = some (.cells false false n.c)) (hro : v5 = .own false ro 0 i 1 ∧ G[ro]? = some (.cells false false (xBU V i E.length))) (h1 : rb ≠ ro) (h2 : rb ≠ nb)
  (hq : q a = (V n.a.toNat t a && V n.b.toNat t a)) (gr : G[rb]? = some (.cells false false (bls (rl (xAQ q a))))) :
  L.loop xA5 xBM ⟨xF7 s0 zt E v5 s6 s8 nb t rb a,G⟩ = L.loop xA5 xBM ⟨xF7 s0 zt E v5 s6 s8 nb t rb (a + 1),G.set rb (.cells false false (bls (rl (xAQ q (a + 1)))))⟩ := by
 have haI : ((a : Nat) : Int) < 512 := by omega
 have hrl : (bls (rl (xAQ q a))).length = 512 := by rw [xAe,xA3]
 have hput := xCz (r := rl (xAQ q a)) (a := a) (by rw [xA3]; exact ha) (q a)
 rw [xDZ ha] at hput
 have hnv : xA2 n.z n.args = .sl n.z n.args.length (xAB n.args) := rfl
 rw [hq] at hput
 obtain ⟨rfl,go⟩ := hro
 have hol := xB2 V i E.length
 have hA := xAF (hv.ca (by rw [ho]; decide))
 have hna := hA.1
 have hra := xCw (V := V) (T := E.length) hA.2 (by omega)
 have hta := xBV (q := V n.a.toNat) hT
 have haa := xDY (V n.a.toNat t) ha
 have hla : (bls (rl (V n.a.toNat t))).length = 512 := by rw [xAe,xA3]
 have hrla := xBf (V n.a.toNat) E.length
 unfold RW at hta
 have hTI : ((t : Nat) : Int) < (E.length : Nat) := by omega
 have hB := xAF (hv.cb (by rw [ho]; decide))
 have hnb := hB.1
 have hrb := xCw (V := V) (T := E.length) hB.2 (by omega)
 have htb := xBV (q := V n.b.toNat) hT
 have hab := xDY (V n.b.toNat t) ha
 have hlb : (bls (rl (V n.b.toNat t))).length = 512 := by rw [xAe,xA3]
 have hrlb := xBf (V n.b.toNat) E.length
 unfold RW at htb
 have hAI : ((n.a.toNat : Nat) : Int) < (i : Nat) := by omega
 generalize V n.a.toNat t a = x at *
 generalize bls (rl (V n.a.toNat t)) = RA at *
 generalize xA8 (V n.a.toNat) E.length = TA at *
 generalize n.a.toNat = A at *
 have hBI : ((n.b.toNat : Nat) : Int) < (i : Nat) := by omega
 generalize V n.b.toNat t a = y at *
 generalize bls (rl (V n.b.toNat t)) = RB at *
 generalize xA8 (V n.b.toNat) E.length = TB at *
 generalize n.b.toNat = B at *
 generalize xBU V i E.length = OUT at *
 generalize bls (rl (xAQ q (a + 1))) = R1 at *
 generalize bls (rl (xAQ q a)) = R0 at *
 unfold Nd.c at gn
 rw [hnv,ho,hna,hnb] at gn
 have gn : G[nb]? = some (.cells false false (.int .u8 5 :: _)) := gn
 cases x with
 | true =>
  simp only [Bool.true_and,Bool.true_or] at hput
  rw [xCH]
  simp (maxSteps := 30000000) (disch := first|exact D5|fail) only [xCd,WB,haI,↓reduceIte,gn,Int.reduceEq,go,hra,hta,haa,hrb,htb,hab,AV.cells,gr,hput,xCe]
 | false =>
  simp only [Bool.false_and,Bool.false_or] at hput
  rw [xCH]
  simp (maxSteps := 30000000) (disch := first|exact D5|fail) only [xCd,WB,haI,↓reduceIte,gn,Int.reduceEq,go,hra,hta,haa,AV.cells,gr,hput,xCe]
set_option maxRecDepth 100000 in
theorem yGo (hv : Vn i n) (ho : n.op = 6) (hi : i ≤ 64) (ha : a < 512) (hT : t < E.length) (hE : E.length ≤ 64) (gn : G[nb]? = some (.cells false false n.c)) (hro : v5 = .own false ro 0 i 1 ∧ G[ro]? = some (.cells false false (xBU V i E.length))) (h1 : rb ≠ ro) (h2 : rb ≠ nb)
  (hq : q a = (V n.a.toNat t a || V n.b.toNat t a)) (gr : G[rb]? = some (.cells false false (bls (rl (xAQ q a))))) :
  L.loop xA5 xBM ⟨xF7 s0 zt E v5 s6 s8 nb t rb a,G⟩ = L.loop xA5 xBM ⟨xF7 s0 zt E v5 s6 s8 nb t rb (a + 1),G.set rb (.cells false false (bls (rl (xAQ q (a + 1)))))⟩ := by
 have haI : ((a : Nat) : Int) < 512 := by omega
 have hrl : (bls (rl (xAQ q a))).length = 512 := by rw [xAe,xA3]
 have hput := xCz (r := rl (xAQ q a)) (a := a) (by rw [xA3]; exact ha) (q a)
 rw [xDZ ha] at hput
 have hnv : xA2 n.z n.args = .sl n.z n.args.length (xAB n.args) := rfl
 rw [hq] at hput
 obtain ⟨rfl,go⟩ := hro
 have hol := xB2 V i E.length
 have hA := xAF (hv.ca (by rw [ho]; decide))
 have hna := hA.1
 have hra := xCw (V := V) (T := E.length) hA.2 (by omega)
 have hta := xBV (q := V n.a.toNat) hT
 have haa := xDY (V n.a.toNat t) ha
 have hla : (bls (rl (V n.a.toNat t))).length = 512 := by rw [xAe,xA3]
 have hrla := xBf (V n.a.toNat) E.length
 unfold RW at hta
 have hTI : ((t : Nat) : Int) < (E.length : Nat) := by omega
 have hB := xAF (hv.cb (by rw [ho]; decide))
 have hnb := hB.1
 have hrb := xCw (V := V) (T := E.length) hB.2 (by omega)
 have htb := xBV (q := V n.b.toNat) hT
 have hab := xDY (V n.b.toNat t) ha
 have hlb : (bls (rl (V n.b.toNat t))).length = 512 := by rw [xAe,xA3]
 have hrlb := xBf (V n.b.toNat) E.length
 unfold RW at htb
 have hAI : ((n.a.toNat : Nat) : Int) < (i : Nat) := by omega
 generalize V n.a.toNat t a = x at *
 generalize bls (rl (V n.a.toNat t)) = RA at *
 generalize xA8 (V n.a.toNat) E.length = TA at *
 generalize n.a.toNat = A at *
 have hBI : ((n.b.toNat : Nat) : Int) < (i : Nat) := by omega
 generalize V n.b.toNat t a = y at *
 generalize bls (rl (V n.b.toNat t)) = RB at *
 generalize xA8 (V n.b.toNat) E.length = TB at *
 generalize n.b.toNat = B at *
 generalize xBU V i E.length = OUT at *
 generalize bls (rl (xAQ q (a + 1))) = R1 at *
 generalize bls (rl (xAQ q a)) = R0 at *
 unfold Nd.c at gn
 rw [hnv,ho,hna,hnb] at gn
 have gn : G[nb]? = some (.cells false false (.int .u8 6 :: _)) := gn
 cases x with
 | true =>
  simp only [Bool.true_and,Bool.true_or] at hput
  rw [xCH]
  simp (maxSteps := 30000000) (disch := first|exact D5|fail) only [xCd,WB,haI,↓reduceIte,gn,Int.reduceEq,go,hra,hta,haa,AV.cells,gr,hput,xCe]
 | false =>
  simp only [Bool.false_and,Bool.false_or] at hput
  rw [xCH]
  simp (maxSteps := 30000000) (disch := first|exact D5|fail) only [xCd,WB,haI,↓reduceIte,gn,Int.reduceEq,go,hra,hta,haa,hrb,htb,hab,AV.cells,gr,hput,xCe]
set_option maxRecDepth 100000 in
theorem yEK (hv : Vn i n) (ho : n.op = 8) (hi : i ≤ 64) (ha : a < 512) (hT : t < E.length) (hE : E.length ≤ 64) (gn : G[nb]? = some (.cells false false n.c)) (hro : True) (h1 : rb ≠ ro) (h2 : rb ≠ nb)
  (hq : t = 0 ∧ q a = false) (gr : G[rb]? = some (.cells false false (bls (rl (xAQ q a))))) :
  L.loop xA5 xBM ⟨xF7 s0 zt E v5 s6 s8 nb t rb a,G⟩ = L.loop xA5 xBM ⟨xF7 s0 zt E v5 s6 s8 nb t rb (a + 1),G.set rb (.cells false false (bls (rl (xAQ q (a + 1)))))⟩ := by
 have haI : ((a : Nat) : Int) < 512 := by omega
 have hrl : (bls (rl (xAQ q a))).length = 512 := by rw [xAe,xA3]
 have hput := xCz (r := rl (xAQ q a)) (a := a) (by rw [xA3]; exact ha) (q a)
 rw [xDZ ha] at hput
 have hnv : xA2 n.z n.args = .sl n.z n.args.length (xAB n.args) := rfl
 obtain ⟨ht0,hq⟩ := hq
 rw [hq] at hput
 generalize bls (rl (xAQ q (a + 1))) = R1 at *
 generalize bls (rl (xAQ q a)) = R0 at *
 subst ht0
 unfold Nd.c at gn
 rw [hnv,ho] at gn
 have gn : G[nb]? = some (.cells false false (.int .u8 8 :: _)) := gn
 rw [xCH]
 simp (maxSteps := 30000000) (disch := first|exact D5|fail) only [xCd,WB,haI,↓reduceIte,gn,Int.reduceEq,AV.cells,gr,hput,xCe]
 rfl
set_option maxRecDepth 100000 in
theorem yEL (hv : Vn i n) (ho : n.op = 8) (hi : i ≤ 64) (ha : a < 512) (hT : t < E.length) (hE : E.length ≤ 64) (gn : G[nb]? = some (.cells false false n.c)) (hro : v5 = .own false ro 0 i 1 ∧ G[ro]? = some (.cells false false (xBU V i E.length))) (h1 : rb ≠ ro) (h2 : rb ≠ nb)
  (hq : 0 < t ∧ q a = V n.a.toNat (t - 1) a) (gr : G[rb]? = some (.cells false false (bls (rl (xAQ q a))))) :
  L.loop xA5 xBM ⟨xF7 s0 zt E v5 s6 s8 nb t rb a,G⟩ = L.loop xA5 xBM ⟨xF7 s0 zt E v5 s6 s8 nb t rb (a + 1),G.set rb (.cells false false (bls (rl (xAQ q (a + 1)))))⟩ := by
 have haI : ((a : Nat) : Int) < 512 := by omega
 have hrl : (bls (rl (xAQ q a))).length = 512 := by rw [xAe,xA3]
 have hput := xCz (r := rl (xAQ q a)) (a := a) (by rw [xA3]; exact ha) (q a)
 rw [xDZ ha] at hput
 have hnv : xA2 n.z n.args = .sl n.z n.args.length (xAB n.args) := rfl
 obtain ⟨ht0,hq⟩ := hq
 rw [hq] at hput
 obtain ⟨rfl,go⟩ := hro
 have hol := xB2 V i E.length
 have hT1 : t - 1 < E.length := by omega
 have hA := xAF (hv.ca (by rw [ho]; decide))
 have hna := hA.1
 have hra := xCw (V := V) (T := E.length) hA.2 (by omega)
 have hta := xBV (q := V n.a.toNat) hT1
 have haa := xDY (V n.a.toNat (t - 1)) ha
 have hla : (bls (rl (V n.a.toNat (t - 1)))).length = 512 := by rw [xAe,xA3]
 have hrla := xBf (V n.a.toNat) E.length
 unfold RW at hta
 have hTI : ((t - 1 : Nat) : Int) < (E.length : Nat) := by omega
 have h0I : (0 : Int) < (t : Nat) := by omega
 have hs1 : ((t : Nat) : Int) - 1 = ((t - 1 : Nat) : Int) := by omega
 have hAI : ((n.a.toNat : Nat) : Int) < (i : Nat) := by omega
 generalize V n.a.toNat (t - 1) a = x at *
 generalize bls (rl (V n.a.toNat (t - 1))) = RA at *
 generalize xA8 (V n.a.toNat) E.length = TA at *
 generalize n.a.toNat = A at *
 generalize xBU V i E.length = OUT at *
 generalize bls (rl (xAQ q (a + 1))) = R1 at *
 generalize bls (rl (xAQ q a)) = R0 at *
 unfold Nd.c at gn
 rw [hnv,ho,hna] at gn
 have gn : G[nb]? = some (.cells false false (.int .u8 8 :: _)) := gn
 rw [xCH]
 simp (maxSteps := 30000000) (disch := first|exact D5|fail) only [xCd,WB,haI,↓reduceIte,gn,Int.reduceEq,h0I,go,hra,hs1,hta,haa,AV.cells,gr,hput,xCe]
end
def xLe (q : Nat → Q) (a v : Nat) : Bool := (List.range v).any fun w => q w a
theorem xIc (q : Nat → Q) (a v : Nat) : xLe q a (v + 1) = (xLe q a v || q v a) := by
 unfold xLe
 rw [List.range_succ,List.any_append]; simp
def snV (A B : Nat → Q) (a : Nat) : Nat → Bool
 | 0 => false
 | m + 1 => B m a || (A m a && snV A B a m)
theorem xDV (q : Q) (a : Nat) : (rl (xAQ q a)).set a false = rl (xAQ q a) := by
 refine List.ext_getElem (by simp) fun b q1 q2 => ?_
 rw [List.getElem_set]
 by_cases c : a = b
 ·subst c
  rw [if_pos rfl]
  simp [rl,xAQ]
 ·rw [if_neg c]
section
variable {n : Nd} {V : Nat → Nat → Q} {q : Q} {ro rb nb i t T a A B x : Nat} {r : List Bool} {E : List Ev} {zt : Bool} {s0 s1 v5 s6 s8 : AV}
set_option maxRecDepth 100000 in
theorem yAA (hx : x = 8 ∨ x = 9 ∨ x = 10) (hnx : n.x = (x : Nat)) (hna : n.a = (A : Nat)) (hA : A < i) (hT : t < T) (ha : a < 512) (hr : r.length = 512) (hi : i ≤ 64) (hT64 : T ≤ 64) (h1 : rb ≠ ro) (h2 : rb ≠ nb) : ∀ k v,v + k = 8 → ∀ G : Heap,
  G[nb]? = some (.cells false false n.c) → G[ro]? = some (.cells false false (xBU V i T)) → G[rb]? = some (.cells false false (bls (r.set a (avQ x (V A t) a v)))) →
  L.loop xJI xTU ⟨xJJ s0 s1 (.own false ro 0 i 1) s6 (.ptr nb 0) s8 (.int .i64 (t : Nat)) (.own false rb 0 512 1) (.int .i64 (a : Nat)) (.int .i64 (v : Nat)),G⟩ =
   some (.exit 9,⟨xJJ s0 s1 (.own false ro 0 i 1) s6 (.ptr nb 0) s8 (.int .i64 (t : Nat)) (.own false rb 0 512 1) (.int .i64 (a : Nat)) (.int .i64 8),G.set rb (.cells false false (bls (r.set a (avQ x (V A t) a 8))))⟩) := by
 have hnv : xA2 n.z n.args = .sl n.z n.args.length (xAB n.args) := rfl
 have hra := xCw (V := V) (T := T) hA (by omega)
 have hta := xBV (q := V A) hT
 have hol := xB2 V i T
 have hrla := xBf (V A) T
 unfold RW at hta
 generalize V A t = q at *
 intro k
 induction k with
 | zero =>
  intro v hv G gn go gr
  obtain rfl : v = 8 := by omega
  have hset : G.set rb (.cells false false (bls (r.set a (avQ x q a 8)))) = G := by
   obtain ⟨hk,hx⟩ := List.getElem?_eq_some_iff.1 gr
   rw [← hx,List.set_getElem_self]
  rw [hset,xTV]
  simp (maxSteps := 30000000) (disch := first|exact D5|fail) only [xMW,WB,↓reduceIte,xPW]
  try rfl
 | succ k ih =>
  intro v hv G gn go gr
  have hvI : ((v : Nat) : Int) < 8 := by omega
  have lr := xA4 gr
  have h65 := yCZ hx ha (show v < 8 by omega)
  have hw := xYl (x := x) ha (show v < 8 by omega)
  have hat := xDY q hw
  have hrl : (bls (rl q)).length = 512 := by rw [xAe,xA3]
  have hgr := xDe (l := r.set a (avQ x q a v)) (k := a) (by simp; omega)
  have hga : (r.set a (avQ x q a v)).getD a false = avQ x q a v := by
   rw [List.getD_eq_getElem?_getD,List.getElem?_set_self (by omega)]; rfl
  rw [hga] at hgr
  have hgl : (bls (r.set a (avQ x q a v))).length = 512 := by rw [xAe,List.length_set,hr]
  have hput := xCz (r := r.set a (avQ x q a v)) (a := a) (by simp; omega) (avQ x q a (v + 1))
  rw [List.set_set] at hput
  have e1 := ih (v + 1) (by omega) (G.set rb (.cells false false (bls (r.set a (avQ x q a (v + 1)))))) (by rw [xBH h2]; exact gn) (by rw [xBH h1]; exact go) (xEJ lr)
  rw [List.set_set] at e1
  have haI : ((a : Nat) : Int) < 512 := by omega
  have hwI : ((wth x a v : Nat) : Int) < 512 := by omega
  have hAI : ((A : Nat) : Int) < (i : Nat) := by omega
  have hTI : ((t : Nat) : Int) < (T : Nat) := by omega
  have hs := xXf x q a v
  clear ih
  unfold Nd.c at gn
  rw [hnv,hnx,hna] at gn
  generalize wth x a v = w at *
  generalize bls (rl q) = RB at *
  generalize xA8 (V A) T = TA at *
  generalize xBU V i T = RS at *
  generalize avQ x q a (v + 1) = b1 at *
  generalize bls (r.set a b1) = R1 at *
  generalize bls (r.set a (avQ x q a v)) = R0 at *
  cases hb : avQ x q a v with
  | true =>
   rw [hb] at hgr hs
   simp only [Bool.true_or] at hs
   subst hs
   rw [xTV]
   simp (maxSteps := 30000000) (disch := first|exact D5|fail) only [xMW,WB,hvI,↓reduceIte,gr,hgr,xAn,AV.cells,hput,xPW,e1]
  | false =>
   rw [hb] at hgr hs
   simp only [Bool.false_or] at hs
   rw [hs] at hput
   rw [xTV]
   simp (maxSteps := 30000000) (disch := first|exact D5|fail) only [xMW,WB,hvI,↓reduceIte,gr,hgr,gn,go,hra,hta,h65,xAA,xAm,xAn,hat,AV.cells,hput,xPW,e1]
set_option maxRecDepth 100000 in
theorem yAB (hna : n.a = (A : Nat)) (hA : A < i) (hT : t < T) (ha : a < 512) (hr : r.length = 512) (hi : i ≤ 64) (hT64 : T ≤ 64) (h1 : rb ≠ ro) (h2 : rb ≠ nb) : ∀ k v,v + k = t + 1 → ∀ G : Heap,
  G[nb]? = some (.cells false false n.c) → G[ro]? = some (.cells false false (xBU V i T)) → G[rb]? = some (.cells false false (bls (r.set a (xLe (V A) a v)))) →
  L.loop xJK xTW ⟨xJL s0 s1 (.own false ro 0 i 1) s6 (.ptr nb 0) s8 (.int .i64 (t : Nat)) (.own false rb 0 512 1) (.int .i64 (a : Nat)) (.int .i64 (v : Nat)),G⟩ =
   some (.exit 11,⟨xJL s0 s1 (.own false ro 0 i 1) s6 (.ptr nb 0) s8 (.int .i64 (t : Nat)) (.own false rb 0 512 1) (.int .i64 (a : Nat)) (.int .i64 (t + 1 : Nat)),G.set rb (.cells false false (bls (r.set a (xLe (V A) a (t + 1)))))⟩) := by
 have hnv : xA2 n.z n.args = .sl n.z n.args.length (xAB n.args) := rfl
 have hra := xCw (V := V) (T := T) hA (by omega)
 have hol := xB2 V i T
 have hrla := xBf (V A) T
 intro k
 induction k with
 | zero =>
  intro v hv G gn go gr
  obtain rfl : v = t + 1 := by omega
  have hset : G.set rb (.cells false false (bls (r.set a (xLe (V A) a (t + 1))))) = G := by
   obtain ⟨hk,hx⟩ := List.getElem?_eq_some_iff.1 gr
   rw [← hx,List.set_getElem_self]
  have hn : ¬ (((t + 1 : Nat) : Int) ≤ ((t : Nat) : Int)) := by omega
  rw [hset,xTX]
  simp (maxSteps := 30000000) (disch := first|exact D5|fail) only [xMX,WB,hn,↓reduceIte,xPX]
  try rfl
 | succ k ih =>
  intro v hv G gn go gr
  have hvI : ((v : Nat) : Int) ≤ (t : Nat) := by omega
  have hvT : v < T := by omega
  have lr := xA4 gr
  have hta := xBV (q := V A) hvT
  unfold RW at hta
  have hat := xDY (V A v) ha
  have hrl : (bls (rl (V A v))).length = 512 := by rw [xAe,xA3]
  have hgr := xDe (l := r.set a (xLe (V A) a v)) (k := a) (by simp; omega)
  have hga : (r.set a (xLe (V A) a v)).getD a false = xLe (V A) a v := by
   rw [List.getD_eq_getElem?_getD,List.getElem?_set_self (by omega)]; rfl
  rw [hga] at hgr
  have hgl : (bls (r.set a (xLe (V A) a v))).length = 512 := by rw [xAe,List.length_set,hr]
  have hput := xCz (r := r.set a (xLe (V A) a v)) (a := a) (by simp; omega) (xLe (V A) a (v + 1))
  rw [List.set_set] at hput
  have e1 := ih (v + 1) (by omega) (G.set rb (.cells false false (bls (r.set a (xLe (V A) a (v + 1)))))) (by rw [xBH h2]; exact gn) (by rw [xBH h1]; exact go) (xEJ lr)
  rw [List.set_set] at e1
  have haI : ((a : Nat) : Int) < 512 := by omega
  have hAI : ((A : Nat) : Int) < (i : Nat) := by omega
  have hTI : ((v : Nat) : Int) < (T : Nat) := by omega
  have hs := xIc (V A) a v
  clear ih
  unfold Nd.c at gn
  rw [hnv,hna] at gn
  generalize V A v a = bv at *
  generalize bls (rl (V A v)) = RB at *
  generalize xA8 (V A) T = TA at *
  generalize xBU V i T = RS at *
  generalize xLe (V A) a (v + 1) = b1 at *
  generalize xLe (V A) a v = b0 at *
  generalize bls (r.set a b1) = R1 at *
  generalize bls (r.set a b0) = R0 at *
  cases b0 with
  | true =>
   simp only [Bool.true_or] at hs
   subst hs
   rw [xTX]
   simp (maxSteps := 30000000) (disch := first|exact D5|fail) only [xMX,WB,hvI,↓reduceIte,gr,hgr,AV.cells,hput,xPX,e1]
  | false =>
   simp only [Bool.false_or] at hs
   rw [hs] at hput
   rw [xTX]
   simp (maxSteps := 30000000) (disch := first|exact D5|fail) only [xMX,WB,hvI,↓reduceIte,gr,hgr,gn,go,hra,hta,hat,AV.cells,hput,xPX,e1]
set_option maxRecDepth 100000 in
theorem xW7 (ha : a < 512) (hr : r.length = 512) (j : Int) {G : Heap} (gr : G[rb]? = some (.cells false false (bls (r.set a true)))) :
  L.loop xGt xOh ⟨xFg s0 s1 v5 s6 (.ptr nb 0) s8 (.int .i64 (t : Nat)) (.own false rb 0 512 1) (.int .i64 (a : Nat)) (.int .i64 j),G⟩ = some (.exit 7,⟨xFg s0 s1 v5 s6 (.ptr nb 0) s8 (.int .i64 (t : Nat)) (.own false rb 0 512 1) (.int .i64 (a : Nat)) (.int .i64 j),G⟩) := by
 have hgr := xDe (l := r.set a true) (k := a) (by simp; omega)
 have hga : (r.set a true).getD a false = true := by
  rw [List.getD_eq_getElem?_getD,List.getElem?_set_self (by omega)]; rfl
 rw [hga] at hgr
 have hgl : (bls (r.set a true)).length = 512 := by rw [xAe,List.length_set,hr]
 have haI : ((a : Nat) : Int) < 512 := by omega
 generalize bls (r.set a true) = R0 at *
 by_cases c : 0 ≤ j
 ·rw [xHN]
  simp (disch := omega) only [xFf,WB,c,↓reduceIte,gr,hgr,xGu]
 ·rw [xHN]
  simp (disch := omega) only [xFf,WB,c,↓reduceIte,xGu]
set_option maxRecDepth 100000 in
theorem yAC (hna : n.a = (A : Nat)) (hnb : n.b = (B : Nat)) (hA : A < i) (hB : B < i) (hT : t < T) (ha : a < 512) (hr : r.length = 512) (hi : i ≤ 64) (hT64 : T ≤ 64) (h1 : rb ≠ ro) (h2 : rb ≠ nb) : ∀ m,m ≤ t + 1 → ∀ G : Heap,
  G[nb]? = some (.cells false false n.c) → G[ro]? = some (.cells false false (xBU V i T)) → G[rb]? = some (.cells false false (bls (r.set a false))) → ∃ j' : Int,
  L.loop xGt xOh ⟨xFg s0 s1 (.own false ro 0 i 1) s6 (.ptr nb 0) s8 (.int .i64 (t : Nat)) (.own false rb 0 512 1) (.int .i64 (a : Nat)) (.int .i64 ((m : Nat) - 1)),G⟩ =
   some (.exit 7,⟨xFg s0 s1 (.own false ro 0 i 1) s6 (.ptr nb 0) s8 (.int .i64 (t : Nat)) (.own false rb 0 512 1) (.int .i64 (a : Nat)) (.int .i64 j'),G.set rb (.cells false false (bls (r.set a (snV (V A) (V B) a m))))⟩) := by
 have hnv : xA2 n.z n.args = .sl n.z n.args.length (xAB n.args) := rfl
 have hra := xCw (V := V) (T := T) hA (by omega)
 have hrb := xCw (V := V) (T := T) hB (by omega)
 have hol := xB2 V i T
 have hrla := xBf (V A) T
 have hrlb := xBf (V B) T
 intro m
 induction m with
 | zero =>
  intro hm G gn go gr
  have hset : G.set rb (.cells false false (bls (r.set a (snV (V A) (V B) a 0)))) = G := by
   obtain ⟨hk,hx⟩ := List.getElem?_eq_some_iff.1 gr
   rw [show snV (V A) (V B) a 0 = false from rfl,← hx,List.set_getElem_self]
  refine ⟨-1,?_⟩
  rw [hset]
  show L.loop xGt xOh ⟨xFg s0 s1 (.own false ro 0 i 1) s6 (.ptr nb 0) s8 (.int .i64 (t : Nat)) (.own false rb 0 512 1) (.int .i64 (a : Nat)) (.int .i64 (-1)),G⟩ = _
  have hn : ¬ ((0 : Int) ≤ -1) := by omega
  rw [xHN]
  simp (maxSteps := 30000000) (disch := first|exact D5|fail) only [xFf,Int.reduceNeg,WB,hn,↓reduceIte,xGu]
 | succ m ih =>
  intro hm G gn go gr
  have hmI : (((m + 1 : Nat) : Int) - 1) = ((m : Nat) : Int) := by omega
  rw [hmI]
  have h0I : (0 : Int) ≤ ((m : Nat) : Int) := by omega
  have hmT : m < T := by omega
  have lr := xA4 gr
  have hta := xBV (q := V A) hmT
  have htb := xBV (q := V B) hmT
  unfold RW at hta htb
  have hata := xDY (V A m) ha
  have hatb := xDY (V B m) ha
  have hrl1 : (bls (rl (V A m))).length = 512 := by rw [xAe,xA3]
  have hrl2 : (bls (rl (V B m))).length = 512 := by rw [xAe,xA3]
  have hgr := xDe (l := r.set a false) (k := a) (by simp; omega)
  have hga : (r.set a false).getD a false = false := by
   rw [List.getD_eq_getElem?_getD,List.getElem?_set_self (by omega)]; rfl
  rw [hga] at hgr
  have hgl : (bls (r.set a false)).length = 512 := by rw [xAe,List.length_set,hr]
  have hput := xCz (r := r.set a false) (a := a) (by simp; omega) (V B m a)
  rw [List.set_set] at hput
  have haI : ((a : Nat) : Int) < 512 := by omega
  have hAI : ((A : Nat) : Int) < (i : Nat) := by omega
  have hBI : ((B : Nat) : Int) < (i : Nat) := by omega
  have hTI : ((m : Nat) : Int) < (T : Nat) := by omega
  have hs : snV (V A) (V B) a (m + 1) = (V B m a || (V A m a && snV (V A) (V B) a m)) := rfl
  have hd : (xBU V i T).length = i := hol
  have lset : G.set rb (.cells false false (bls (r.set a false))) = G := by
   obtain ⟨hk,hx⟩ := List.getElem?_eq_some_iff.1 gr
   rw [← hx,List.set_getElem_self]
  have ih' := ih (by omega) G gn go gr
  have et := fun j : Int => xW7 (s0 := s0) (s1 := s1) (v5 := .own false ro 0 i 1) (s6 := s6) (s8 := s8) (nb := nb) (t := t) ha hr j (G := G.set rb (.cells false false (bls (r.set a true)))) (xEJ lr)
  clear ih
  unfold Nd.c at gn
  rw [hnv,hna,hnb] at gn
  rw [hs]
  cases hb : V B m a with
  | true =>
   rw [hb] at hatb hput
   simp only [Bool.true_or]
   generalize bls (rl (V A m)) = RA at *
   generalize bls (rl (V B m)) = RB at *
   generalize xA8 (V A) T = TA at *
   generalize xA8 (V B) T = TB at *
   generalize xBU V i T = RS at *
   generalize bls (r.set a true) = R1 at *
   generalize bls (r.set a false) = R0 at *
   cases hav : V A m a with
   | true =>
    rw [hav] at hata
    refine ⟨((m : Nat) : Int) - 1,?_⟩
    rw [xHN]
    simp (maxSteps := 30000000) (disch := first|exact D5|fail) only [xFf,WB,h0I,↓reduceIte,gr,hgr,gn,go,hrb,htb,hatb,AV.cells,hput,xBH,hra,hta,hata,xGu,et]
   | false =>
    rw [hav] at hata
    refine ⟨((m : Nat) : Int),?_⟩
    rw [xHN]
    simp (maxSteps := 30000000) (disch := first|exact D5|fail) only [xFf,WB,h0I,↓reduceIte,gr,hgr,gn,go,hrb,htb,hatb,AV.cells,hput,xBH,hra,hta,hata,Nat.reduceEqDiff,xGu]
  | false =>
   rw [hb] at hatb hput
   simp only [Bool.false_or]
   cases hav : V A m a with
   | true =>
    rw [hav] at hata
    simp only [Bool.true_and]
    obtain ⟨j',e1⟩ := ih'
    refine ⟨j',?_⟩
    generalize snV (V A) (V B) a m = sb at *
    generalize bls (rl (V A m)) = RA at *
    generalize bls (rl (V B m)) = RB at *
    generalize xA8 (V A) T = TA at *
    generalize xA8 (V B) T = TB at *
    generalize xBU V i T = RS at *
    generalize bls (r.set a sb) = R1 at *
    generalize bls (r.set a false) = R0 at *
    rw [xHN]
    simp (maxSteps := 30000000) (disch := first|exact D5|fail) only [xFf,WB,h0I,↓reduceIte,gr,hgr,gn,go,hrb,htb,hatb,AV.cells,hput,lset,hra,hta,hata,xGu,e1]
   | false =>
    rw [hav] at hata
    simp only [Bool.false_and]
    refine ⟨((m : Nat) : Int),?_⟩
    generalize bls (rl (V A m)) = RA at *
    generalize bls (rl (V B m)) = RB at *
    generalize xA8 (V A) T = TA at *
    generalize xA8 (V B) T = TB at *
    generalize xBU V i T = RS at *
    generalize bls (r.set a false) = R0 at *
    rw [xHN]
    simp (maxSteps := 30000000) (disch := first|exact D5|fail) only [xFf,WB,h0I,↓reduceIte,gr,hgr,gn,go,hrb,htb,hatb,AV.cells,hput,lset,hra,hta,hata,Nat.reduceEqDiff,xGu]
end
section
variable {n : Nd} {V : Nat → Nat → Q} {q : Q} {G : Heap} {ro rb nb i t a : Nat} {E : List Ev} {zt : Bool} {s0 v5 s6 s8 : AV}
set_option maxRecDepth 100000 in
theorem yGp (hv : Vn i n) (ho : n.op = 7) (hi : i ≤ 64) (ha : a < 512) (hT : t < E.length) (hE : E.length ≤ 64) (gn : G[nb]? = some (.cells false false n.c)) (hro : v5 = .own false ro 0 i 1 ∧ G[ro]? = some (.cells false false (xBU V i E.length))) (h1 : rb ≠ ro) (h2 : rb ≠ nb)
  (hq : q a = avQ n.x.toNat (V n.a.toNat t) a 8) (gr : G[rb]? = some (.cells false false (bls (rl (xAQ q a))))) :
  L.loop xA5 xBM ⟨xF7 s0 zt E v5 s6 s8 nb t rb a,G⟩ = L.loop xA5 xBM ⟨xF7 s0 zt E v5 s6 s8 nb t rb (a + 1),G.set rb (.cells false false (bls (rl (xAQ q (a + 1)))))⟩ := by
 have haI : ((a : Nat) : Int) < 512 := by omega
 obtain ⟨rfl,go⟩ := hro
 have hnv : xA2 n.z n.args = .sl n.z n.args.length (xAB n.args) := rfl
 have hA := xAF (hv.ca (by rw [ho]; decide))
 have hx := hv.ex ho
 have e1 := yAA (V := V) (s0 := s0) (s1 := .sl zt E.length (evs E)) (s6 := s6) (s8 := s8) (x := n.x.toNat) (A := n.a.toNat) (T := E.length) (r := rl (xAQ q a)) (show n.x.toNat = 8 ∨ n.x.toNat = 9 ∨ n.x.toNat = 10 by omega) (by omega) hA.1 hA.2 hT ha (xA3 _) hi hE h1 h2 8 0 rfl G gn go (by rw [show avQ n.x.toNat (V n.a.toNat t) a 0 = false from rfl,xDV]; exact gr)
 rw [← hq,xDZ ha] at e1
 have e1' : L.loop xJI xTU ⟨xJJ s0 (.sl zt E.length (evs E)) (.own false ro 0 i 1) s6 (.ptr nb 0) s8 (.int .i64 (t : Nat)) (.own false rb 0 512 1) (.int .i64 (a : Nat)) (.int .i64 0),G⟩ = _ := e1
 generalize bls (rl (xAQ q (a + 1))) = R1 at *
 unfold Nd.c at gn
 rw [hnv,ho] at gn
 have gn : G[nb]? = some (.cells false false (.int .u8 7 :: _)) := gn
 rw [xCH]
 simp (maxSteps := 30000000) (disch := first|exact D5|fail) only [xCd,WB,haI,↓reduceIte,gn,Int.reduceEq,xPW,e1',xCe]
set_option maxRecDepth 100000 in
theorem yEM (hv : Vn i n) (ho : n.op = 10) (hi : i ≤ 64) (ha : a < 512) (hT : t < E.length) (hE : E.length ≤ 64) (gn : G[nb]? = some (.cells false false n.c)) (hro : v5 = .own false ro 0 i 1 ∧ G[ro]? = some (.cells false false (xBU V i E.length))) (h1 : rb ≠ ro) (h2 : rb ≠ nb)
  (hq : q a = xLe (V n.a.toNat) a (t + 1)) (gr : G[rb]? = some (.cells false false (bls (rl (xAQ q a))))) :
  L.loop xA5 xBM ⟨xF7 s0 zt E v5 s6 s8 nb t rb a,G⟩ = L.loop xA5 xBM ⟨xF7 s0 zt E v5 s6 s8 nb t rb (a + 1),G.set rb (.cells false false (bls (rl (xAQ q (a + 1)))))⟩ := by
 have haI : ((a : Nat) : Int) < 512 := by omega
 obtain ⟨rfl,go⟩ := hro
 have hnv : xA2 n.z n.args = .sl n.z n.args.length (xAB n.args) := rfl
 have hA := xAF (hv.ca (by rw [ho]; decide))
 have e1 := yAB (V := V) (s0 := s0) (s1 := .sl zt E.length (evs E)) (s6 := s6) (s8 := s8) (A := n.a.toNat) (T := E.length) (r := rl (xAQ q a)) hA.1 hA.2 hT ha (xA3 _) hi hE h1 h2 (t + 1) 0 (by omega) G gn go (by rw [show xLe (V n.a.toNat) a 0 = false from rfl,xDV]; exact gr)
 rw [← hq,xDZ ha] at e1
 have e1' : L.loop xJK xTW ⟨xJL s0 (.sl zt E.length (evs E)) (.own false ro 0 i 1) s6 (.ptr nb 0) s8 (.int .i64 (t : Nat)) (.own false rb 0 512 1) (.int .i64 (a : Nat)) (.int .i64 0),G⟩ = _ := e1
 generalize bls (rl (xAQ q (a + 1))) = R1 at *
 unfold Nd.c at gn
 rw [hnv,ho] at gn
 have gn : G[nb]? = some (.cells false false (.int .u8 10 :: _)) := gn
 rw [xCH]
 simp (maxSteps := 30000000) (disch := first|exact D5|fail) only [xCd,WB,haI,↓reduceIte,gn,Int.reduceEq,xPX,e1',xCe]
set_option maxRecDepth 100000 in
theorem yGq (hv : Vn i n) (ho : n.op = 9) (hi : i ≤ 64) (ha : a < 512) (hT : t < E.length) (hE : E.length ≤ 64) (gn : G[nb]? = some (.cells false false n.c)) (hro : v5 = .own false ro 0 i 1 ∧ G[ro]? = some (.cells false false (xBU V i E.length))) (h1 : rb ≠ ro) (h2 : rb ≠ nb)
  (hq : q a = snV (V n.a.toNat) (V n.b.toNat) a (t + 1)) (gr : G[rb]? = some (.cells false false (bls (rl (xAQ q a))))) :
  L.loop xA5 xBM ⟨xF7 s0 zt E v5 s6 s8 nb t rb a,G⟩ = L.loop xA5 xBM ⟨xF7 s0 zt E v5 s6 s8 nb t rb (a + 1),G.set rb (.cells false false (bls (rl (xAQ q (a + 1)))))⟩ := by
 have haI : ((a : Nat) : Int) < 512 := by omega
 obtain ⟨rfl,go⟩ := hro
 have hnv : xA2 n.z n.args = .sl n.z n.args.length (xAB n.args) := rfl
 have hA := xAF (hv.ca (by rw [ho]; decide))
 have hB := xAF (hv.cb (by rw [ho]; decide))
 obtain ⟨j',e1⟩ := yAC (V := V) (s0 := s0) (s1 := .sl zt E.length (evs E)) (s6 := s6) (s8 := s8) (A := n.a.toNat) (B := n.b.toNat) (T := E.length) (r := rl (xAQ q a)) hA.1 hB.1 hA.2 hB.2 hT ha (xA3 _) hi hE h1 h2 (t + 1) (by omega) G gn go (by rw [xDV]; exact gr)
 rw [← hq,xDZ ha,show (((t + 1 : Nat) : Int) - 1) = ((t : Nat) : Int) by omega] at e1
 have e1' : L.loop xGt xOh ⟨xFg s0 (.sl zt E.length (evs E)) (.own false ro 0 i 1) s6 (.ptr nb 0) s8 (.int .i64 (t : Nat)) (.own false rb 0 512 1) (.int .i64 (a : Nat)) (.int .i64 (t : Nat)),G⟩ = _ := e1
 generalize bls (rl (xAQ q (a + 1))) = R1 at *
 unfold Nd.c at gn
 rw [hnv,ho] at gn
 have gn : G[nb]? = some (.cells false false (.int .u8 9 :: _)) := gn
 rw [xCH]
 simp (maxSteps := 30000000) (disch := first|exact D5|fail) only [xCd,WB,haI,↓reduceIte,gn,Int.reduceEq,xGu,e1',xCe]
end
theorem yFg {n : Nd} (h : n.op = 9) (E : List Ev) (A B : Nat → Q) (a : Nat) : ∀ t,xLf n E A B t a = snV A B a t
 | 0 => rfl
 | t + 1 => by
  rw [xLf,if_neg (by omega),yFh h]
  show (B t a || (A t a && xLf n E A B t a)) = _
  rw [yFg h E A B a t]; rfl
theorem yCU {n : Nd} (h : n.op = 10) (E : List Ev) (A B : Nat → Q) (a : Nat) : ∀ t,xLf n E A B t a = xLe A a t
 | 0 => rfl
 | t + 1 => by
  rw [xLf,if_neg (by omega),yCV h]
  show (A t a || xLf n E A B t a) = _
  rw [yCU h E A B a t,xIc,Bool.or_comm]
section
variable {F : List Nd} {G : Heap} {ro rb nb i t a : Nat} {E : List Ev} {zt : Bool} {s0 v5 s6 s8 : AV}
theorem xW8 (hV : ∀ j,j < F.length → Vn j (F.getD j nd0)) (hlen : F.length ≤ 64) (hi : i < F.length) (ha : a < 512) (hT : t < E.length) (hE : E.length ≤ 64) (gn : G[nb]? = some (.cells false false (F.getD i nd0).c))
  (hro : 1 ≤ chn (F.getD i nd0).op → v5 = .own false ro 0 i 1 ∧ G[ro]? = some (.cells false false (xBU (S F E) i E.length))) (h1 : rb ≠ ro) (h2 : rb ≠ nb)
  (gr : G[rb]? = some (.cells false false (bls (rl (xAQ (S F E i t) a))))) :
  L.loop xA5 xBM ⟨xF7 s0 zt E v5 s6 s8 nb t rb a,G⟩ = L.loop xA5 xBM ⟨xF7 s0 zt E v5 s6 s8 nb t rb (a + 1),G.set rb (.cells false false (bls (rl (xAQ (S F E i t) (a + 1)))))⟩ := by
 have hv := hV i hi
 have hs := congrFun (yEO (E := E) hV hi t) a
 have hw : W F E i t = xLf (F.getD i nd0) E (S F E (F.getD i nd0).a.toNat) (S F E (F.getD i nd0).b.toNat) t := rfl
 generalize F.getD i nd0 = n at *
 have ho := hv.op
 have : n.op = 1 ∨ n.op = 2 ∨ n.op = 3 ∨ n.op = 4 ∨ n.op = 5 ∨ n.op = 6 ∨ n.op = 7 ∨ n.op = 8 ∨ n.op = 9 ∨ n.op = 10 := by omega
 rcases this with h | h | h | h | h | h | h | h | h | h
 ·exact yGj hv h (by omega) ha hT hE gn trivial h1 h2 (by rw [hs,yGr h]) gr
 ·exact yGk hv h (by omega) ha hT hE gn trivial h1 h2 (by rw [hs,yGs h]) gr
 ·exact yGl hv h (by omega) ha hT hE gn trivial h1 h2 (by rw [hs,yGt h]; show (_ == _) = _; rw [Bool.eq_iff_iff]; simp) gr
 ·exact yGm hv h (by omega) ha hT hE gn (hro (by rw [h]; decide)) h1 h2 (by rw [hs,yGu h]) gr
 ·exact yGn hv h (by omega) ha hT hE gn (hro (by rw [h]; decide)) h1 h2 (by rw [hs,yGv h]) gr
 ·exact yGo hv h (by omega) ha hT hE gn (hro (by rw [h]; decide)) h1 h2 (by rw [hs,yGw h]) gr
 ·have hx := hv.ex h
  exact yGp hv h (by omega) ha hT hE gn (hro (by rw [h]; decide)) h1 h2 (by rw [hs,yGx h,yC3 (by omega) _ ha]) gr
 ·rw [yGy h,hw] at hs
  cases t with
  | zero => exact yEK (i := i) hv h (by omega) ha hT hE gn trivial h1 h2 ⟨rfl,hs⟩ gr
  | succ t =>
   rw [xLf,if_pos h] at hs
   exact yEL hv h (by omega) ha hT hE gn (hro (by rw [h]; decide)) h1 h2 ⟨by omega,hs⟩ gr
 ·rw [yFh h,hw] at hs
  refine yGq hv h (by omega) ha hT hE gn (hro (by rw [h]; decide)) h1 h2 ?_ gr
  rw [hs]
  show (S F E n.b.toNat t a || (S F E n.a.toNat t a && xLf n E (S F E n.a.toNat) (S F E n.b.toNat) t a)) = _
  rw [yFg h]; rfl
 ·rw [yCV h,hw] at hs
  refine yEM hv h (by omega) ha hT hE gn (hro (by rw [h]; decide)) h1 h2 ?_ gr
  rw [hs]
  show (S F E n.a.toNat t a || xLf n E (S F E n.a.toNat) (S F E n.b.toNat) t a) = _
  rw [yCU h,xIc,Bool.or_comm]
theorem xW9 (q : Q) : rl (xAQ q 512) = rl q := by
 unfold rl
 refine List.map_congr_left fun a ha => ?_
 have := List.mem_range.1 ha
 simp [xAQ,this]
set_option maxRecDepth 100000 in
theorem xU2 (hV : ∀ j,j < F.length → Vn j (F.getD j nd0)) (hlen : F.length ≤ 64) (hi : i < F.length) (hT : t < E.length) (hE : E.length ≤ 64) (h1 : rb ≠ ro) (h2 : rb ≠ nb) : ∀ k a,a + k = 512 → ∀ G : Heap,
  G[nb]? = some (.cells false false (F.getD i nd0).c) → (1 ≤ chn (F.getD i nd0).op → v5 = .own false ro 0 i 1 ∧ G[ro]? = some (.cells false false (xBU (S F E) i E.length))) →
  G[rb]? = some (.cells false false (bls (rl (xAQ (S F E i t) a)))) →
  L.loop xA5 xBM ⟨xF7 s0 zt E v5 s6 s8 nb t rb a,G⟩ = some (.exit 4,⟨xF7 s0 zt E v5 s6 s8 nb t rb 512,G.set rb (.cells false false (bls (rl (S F E i t))))⟩) := by
 intro k
 induction k with
 | zero =>
  intro a hk G gn hro gr
  obtain rfl : a = 512 := by omega
  rw [xW9] at gr
  have hset : G.set rb (.cells false false (bls (rl (S F E i t)))) = G := by
   obtain ⟨hk,hx⟩ := List.getElem?_eq_some_iff.1 gr
   rw [← hx,List.set_getElem_self]
  rw [hset,xCH]
  simp (disch := omega) only [xCd,WB,↓reduceIte,xCe]
  try rfl
 | succ k ih =>
  intro a hk G gn hro gr
  have lr := xA4 gr
  have e1 := xW8 (s0 := s0) (zt := zt) (s6 := s6) (s8 := s8) hV hlen hi (show a < 512 by omega) hT hE gn hro h1 h2 gr
  have e2 := ih (a + 1) (by omega) (G.set rb (.cells false false (bls (rl (xAQ (S F E i t) (a + 1)))))) (by rw [xBH h2]; exact gn) (fun hc => ⟨(hro hc).1,by rw [xBH h1]; exact (hro hc).2⟩) (xEJ lr)
  rw [List.set_set] at e2
  exact e1.trans e2
end
end Go.Abs.Events
