/- open. -/
import Derived.Test.YtdheandekcpieaaDoorAbsBun
import Derived.Test.YtdheandekcpieaaDoorAMC
namespace Go.Abs.Events
open Go Go.Abs
set_option maxHeartbeats 4000000
set_option linter.unusedSimpArgs false
set_option linter.unusedVariables false
theorem yGF {w : Nat} (hw : w < 18446744073709551616) (k : Nat) : xDR .and .u64 (((w : Nat) : Int).fdiv (2 ^ k)) 1 = ((w.testBit k).toNat : Nat) := by
 have e1 : ((w : Nat) : Int).fdiv (2 ^ k) = ((w / 2 ^ k : Nat) : Int) := by
  have : ((2 : Int) ^ k) = ((2 ^ k : Nat) : Int) := by simp
  rw [this,Int.fdiv_eq_ediv_of_nonneg _ (Int.natCast_nonneg _)]
  exact (Int.natCast_ediv _ _).symm
 have h2 : w / 2 ^ k < 18446744073709551616 := Nat.lt_of_le_of_lt (Nat.div_le_self _ _) hw
 rw [e1,show (1 : Int) = ((1 : Nat) : Int) from rfl,yBh h2 (by decide)]
 congr 1
 rw [Nat.testBit,Nat.shiftRight_eq_div_pow]
 have hb : 1 &&& (w / 2 ^ k) = (w / 2 ^ k) % 2 := by rw [Nat.and_comm,Nat.and_one_is_mod]
 rw [hb,Nat.and_one_is_mod]
 rcases Nat.mod_two_eq_zero_or_one (w / 2 ^ k) with e | e <;> rw [e] <;> rfl
def xVE (bd : Nat) (l : List Int) : Bool := l.any fun t => decide (8 ≤ t) && !(bd.testBit (t.toNat - 8))
def bnd (n : Nd) (bd : Nat) : Nat := if n.op = 7 then bd ||| 2 ^ (n.x.toNat - 8) else bd
def opn (fs : List Nd) : Nat → Nat → Nat → Bool
 | 0,_,_ => false
 | k + 1,i,bd => xVE bd (fs.getD i nd0).args || ((decide (0 < chn (fs.getD i nd0).op) && opn fs k (fs.getD i nd0).a.toNat (bnd (fs.getD i nd0) bd)) || (decide (1 < chn (fs.getD i nd0).op) && opn fs k (fs.getD i nd0).b.toNat (bnd (fs.getD i nd0) bd)))
section
variable {fz z : Bool} {fs : List Nd} {l : List Int} {bd p : Nat} {G : Heap} {s0 : AV}
theorem yCY (hbd : bd < 8) (hl : l.length ≤ 100) (har : ∀ t ∈ l,0 ≤ t ∧ t ≤ 10) : ∀ k i,i + k = l.length → ∃ i' : Nat,
  L.loop xKL xUY ⟨xIE s0 (.int .u64 (bd : Nat)) (.bool false) (.ptr p 0) (.sl z l.length (xAv l)) (.int .i64 (l.length : Nat)) (.int .i64 (i : Nat)),G⟩ =
   some (if xVE bd (l.drop i) = true then (.ret,⟨xIE s0 (.int .u64 (bd : Nat)) (.bool true) (.ptr p 0) (.sl z l.length (xAv l)) (.int .i64 (l.length : Nat)) (.int .i64 (i' : Nat)),G⟩)
    else (.exit 0,⟨xIE s0 (.int .u64 (bd : Nat)) (.bool false) (.ptr p 0) (.sl z l.length (xAv l)) (.int .i64 (l.length : Nat)) (.int .i64 (i' : Nat)),G⟩)) := by
 intro k
 induction k with
 | zero =>
  intro i hi
  obtain rfl : i = l.length := by omega
  refine ⟨l.length,?_⟩
  rw [if_neg (by rw [List.drop_length]; simp [xVE]),xQ2]
  simp (maxSteps := 30000000) (disch := first|exact D4|fail) only [xKK,WB,↓reduceIte,xDO]
 | succ k ih =>
  intro i hi'
  have hlt : (i : Int) < (l.length : Nat) := by omega
  have hl1 : i < l.length := by omega
  obtain ⟨i',ih'⟩ := ih (i + 1) (by omega)
  have em : xVE bd (l.drop i) = ((decide (8 ≤ l.getD i 0) && !(bd.testBit ((l.getD i 0).toNat - 8))) || xVE bd (l.drop (i + 1))) := by
   rw [List.drop_eq_getElem_cons hl1,List.getD_eq_getElem?_getD,List.getElem?_eq_getElem hl1]
   rfl
  have hm : l.getD i 0 ∈ l := by rw [List.getD_eq_getElem?_getD,List.getElem?_eq_getElem hl1]; exact List.getElem_mem hl1
  have hr := har _ hm
  rw [em]
  generalize hN : l.getD i 0 = t at *
  by_cases c1 : 8 ≤ t
  ·have hs : min (t - 8).toNat IntKind.u64.bits = t.toNat - 8 := by
    rw [Nat.min_eq_left (by show _ ≤ 64; omega)]; omega
   have hb := yGF (w := bd) (by omega) (t.toNat - 8)
   have hs0 : (0 : Int) ≤ t - 8 := by omega
   cases hbit : bd.testBit (t.toNat - 8) with
   | true =>
    rw [hbit] at hb
    simp only [c1,decide_true,Bool.true_and,Bool.not_true,Bool.false_or]
    refine ⟨i',?_⟩
    rw [xQ2]
    simp (maxSteps := 30000000) (disch := first|exact D4|fail) only [xKK,WB,hlt,↓reduceIte,W2,hN,c1,hs,hb,Bool.toNat_true,Int.reduceEq,xDO,ih']
   | false =>
    rw [hbit] at hb
    simp only [c1,decide_true,Bool.true_and,Bool.not_false,Bool.true_or,if_true]
    refine ⟨i,?_⟩
    rw [xQ2]
    simp (maxSteps := 30000000) (disch := first|exact D4|fail) only [xKK,WB,hlt,↓reduceIte,W2,hN,c1,hs,hb,Bool.toNat_false,xDO]
  ·simp only [c1,decide_false,Bool.false_and,Bool.false_or]
   refine ⟨i',?_⟩
   rw [xQ2]
   simp (maxSteps := 30000000) (disch := first|exact D4|fail) only [xKK,WB,hlt,↓reduceIte,W2,hN,c1,xDO,ih']
theorem yCZ {a b : Nat} (ha : a < 8) (hb : b < 8) : a ||| b < 8 := Nat.or_lt_two_pow (n := 3) ha hb
theorem pw8 {x : Int} (h : x = 8 ∨ x = 9 ∨ x = 10) : 2 ^ (x.toNat - 8) < 8 := by rcases h with rfl | rfl | rfl <;> decide
theorem xY8 {n : Nd} {i : Nat} (hv : Vn i n) (h : bd < 8) : bnd n bd < 8 := by
 unfold bnd
 split
 ·rename_i c
  exact yCZ h (pw8 (hv.ex c))
 ·exact h
theorem yC0 (hlen : fs.length ≤ 64) (hV : ∀ j,j < fs.length → Vn j (fs.getD j nd0)) : ∀ (k i bd : Nat),i < k → i < fs.length → bd < 8 →
  L.pcall 42 [.sl fz fs.length (nds fs),.int .i64 (i : Nat),.int .u64 (bd : Nat)] = some (.bool (opn fs k i bd)) := by
 intro k
 induction k with
 | zero => intro i bd h; omega
 | succ k ih =>
  intro i bd hik hi hbd
  have hv := hV i hi
  rw [opn]
  generalize hn : fs.getD i nd0 = n at *
  obtain ⟨i',e1⟩ := yCY (s0 := .sl fz fs.length (nds fs)) (z := n.z) (p := 0) (G := [.cells false false n.c]) hbd hv.al hv.ar n.args.length 0 (by omega)
  rw [List.drop_zero] at e1
  have h68 := xPE n.op
  have hch : List.take 1 (List.drop 1 (foC n.op)) = [.int .i64 (chn n.op : Nat)] := rfl
  have hfl : (foC n.op).length = 6 := rfl
  generalize foC n.op = C at *
  have hnv : xA7 n.z n.args = .sl n.z n.args.length (xAv n.args) := rfl
  unfold Nd.c at e1
  rw [hnv] at e1
  have e1' : L.loop xKL xUY ⟨xIE (.sl fz fs.length (nds fs)) (.int .u64 (bd : Nat)) (.bool false) (.ptr 0 0) (.sl n.z n.args.length (xAv n.args)) (.int .i64 (n.args.length : Nat)) (.int .i64 0),[.cells false false [.int .u8 (n.op : Nat),.int .i64 n.name,.sl n.z n.args.length (xAv n.args),.int .i64 n.x,.int .i64 n.a,.int .i64 n.b]]⟩ = _ := e1
  cases hA : xVE bd n.args with
  | true =>
   rw [hA] at e1'
   simp only [if_true,Bool.true_or] at e1' ⊢
   rw [xYY,a42,xAb]
   simp (maxSteps := 30000000) (disch := first|exact D4|fail) only [WB,Nat.reduceAdd,Nat.reduceSub,xAw,Nd.c,hn,hnv,AV.cells,AV.isCell,↓reduceIte,xDO,e1']
  | false =>
   rw [hA] at e1'
   simp only [Bool.false_eq_true,if_false,Bool.false_or] at e1' ⊢
   have hbl := xY8 hv hbd
   have hrec : ∀ j : Nat,j < i → L.pcall 42 [.sl fz fs.length (nds fs),.int .i64 (j : Nat),.int .u64 (bnd n bd : Nat)] = some (.bool (opn fs k j (bnd n bd))) := fun j hj => ih j _ (by omega) (by omega) hbl
   have hca := hv.ca
   have hcb := hv.cb
   have hc2 := xEp n.op
   by_cases c7 : n.op = 7
   ·have c7' : (((n.op : Nat) : Int) = 7) = True := eq_true (by omega)
    have hx := hv.ex c7
    have hc1 : chn n.op = 1 := by rw [c7]; rfl
    have ha := xAF (hca (by omega))
    have hra := hrec _ ha.2
    rw [← ha.1] at hra
    have hs0 : (0 : Int) ≤ n.x - 8 := by omega
    have hbe : bnd n bd = bd ||| 2 ^ (n.x.toNat - 8) := by unfold bnd; rw [if_pos c7]
    have hsh : IntKind.u64.wrap (1 * 2 ^ min (n.x - 8).toNat IntKind.u64.bits) = ((2 ^ (n.x.toNat - 8) : Nat) : Int) := by
     rw [yDp (by omega),show (n.x - 8).toNat = n.x.toNat - 8 by omega]
    have hor : xDR .or .u64 (bd : Nat) ((2 ^ (n.x.toNat - 8) : Nat) : Int) = ((bnd n bd : Nat) : Int) := by
     rw [hbe,yDX (by omega) (Nat.lt_of_lt_of_le (pw8 hx) (by omega))]
    have hch' : (chn n.op : Nat) = 1 := hc1
    rw [hch'] at hch ⊢
    generalize bnd n bd = bd2 at *
    generalize opn fs k n.a.toNat bd2 = r at *
    cases r with
    | true =>
     rw [xYY,a42,xAb]
     simp (maxSteps := 30000000) (disch := first|exact D4|fail) only [WB,Nat.reduceAdd,Nat.reduceSub,xAw,Nd.c,hn,hnv,AV.cells,AV.isCell,↓reduceIte,xDO,e1',c7',hsh,hor,h68,xAD,hch,Int.reduceLT,hra,xAn,Nat.reduceLT]
    | false =>
     rw [xYY,a42,xAb]
     simp (maxSteps := 30000000) (disch := first|exact D4|fail) only [WB,Nat.reduceAdd,Nat.reduceSub,xAw,Nd.c,hn,hnv,AV.cells,AV.isCell,↓reduceIte,xDO,e1',c7',hsh,hor,h68,xAD,hch,Int.reduceLT,hra,xAn,Nat.reduceLT]
   ·have c7' : ¬ ((n.op : Nat) : Int) = 7 := by omega
    have hbe : bnd n bd = bd := by unfold bnd; rw [if_neg c7]
    rw [hbe] at hrec ⊢
    rcases hc2 with hc | hc | hc
    ·rw [hc] at hch ⊢
     rw [xYY,a42,xAb]
     simp (maxSteps := 30000000) (disch := first|exact D4|fail) only [WB,Nat.reduceAdd,Nat.reduceSub,xAw,Nd.c,hn,hnv,AV.cells,AV.isCell,↓reduceIte,xDO,e1',c7',h68,xAD,hch,Int.reduceLT,Nat.reduceLT]
    ·have ha := xAF (hca (by omega))
     have hra := hrec _ ha.2
     rw [← ha.1] at hra
     rw [hc] at hch ⊢
     generalize opn fs k n.a.toNat bd = r at *
     cases r with
     | true =>
      rw [xYY,a42,xAb]
      simp (maxSteps := 30000000) (disch := first|exact D4|fail) only [WB,Nat.reduceAdd,Nat.reduceSub,xAw,Nd.c,hn,hnv,AV.cells,AV.isCell,↓reduceIte,xDO,e1',c7',h68,xAD,hch,Int.reduceLT,hra,xAn,Nat.reduceLT]
     | false =>
      rw [xYY,a42,xAb]
      simp (maxSteps := 30000000) (disch := first|exact D4|fail) only [WB,Nat.reduceAdd,Nat.reduceSub,xAw,Nd.c,hn,hnv,AV.cells,AV.isCell,↓reduceIte,xDO,e1',c7',h68,xAD,hch,Int.reduceLT,hra,xAn,Nat.reduceLT]
    ·have ha := xAF (hca (by omega))
     have hra := hrec _ ha.2
     rw [← ha.1] at hra
     have hb := xAF (hcb hc)
     have hrb := hrec _ hb.2
     rw [← hb.1] at hrb
     rw [hc] at hch ⊢
     generalize opn fs k n.a.toNat bd = r at *
     generalize opn fs k n.b.toNat bd = r2 at *
     cases r with
     | true =>
      rw [xYY,a42,xAb]
      simp (maxSteps := 30000000) (disch := first|exact D4|fail) only [WB,Nat.reduceAdd,Nat.reduceSub,xAw,Nd.c,hn,hnv,AV.cells,AV.isCell,↓reduceIte,xDO,e1',c7',h68,xAD,hch,Int.reduceLT,hra,xAn,Nat.reduceLT]
     | false =>
      rw [xYY,a42,xAb]
      simp (maxSteps := 30000000) (disch := first|exact D4|fail) only [WB,Nat.reduceAdd,Nat.reduceSub,xAw,Nd.c,hn,hnv,AV.cells,AV.isCell,↓reduceIte,xDO,e1',c7',h68,xAD,hch,Int.reduceLT,hra,xAn,hrb,Nat.reduceLT]
end
def xHc : List Nd → List Nat → Nat
 | n :: fs,s :: ss => if xMm n s = 0 then xHc fs ss else xMm n s
 | _,_ => 0
def chk (fs : List Nd) : Nat :=
 if fs.length = 0 then 3 else if 64 < fs.length then 4
 else if xHc fs (szs fs []) = 0 then
  (if (szs fs []).getD (fs.length - 1) 0 = fs.length then (if opn fs fs.length (fs.length - 1) 0 = true then 11 else 0) else 2)
 else xHc fs (szs fs [])
theorem wi_iff {lo hi : Int} {l : List Int} : wi lo hi l = true ↔ ∀ t ∈ l,lo ≤ t ∧ t ≤ hi := by
 unfold wi
 rw [List.all_eq_true]
 constructor
 ·intro h t ht
  simpa using h t ht
 ·intro h t ht
  simpa using h t ht
theorem yC1 {op : Nat} (h : ((fnm op).toList == (⟨#[]⟩ : ByteArray).toList) = false) : 1 ≤ op ∧ op ≤ 10 := by
 by_cases c : 1 ≤ op ∧ op ≤ 10
 ·exact c
 ·exfalso
  have : fnm op = ⟨#[]⟩ := by
   unfold fnm
   simp [show op ≠ 1 by omega,show op ≠ 2 by omega,show op ≠ 3 by omega,show op ≠ 4 by omega,show op ≠ 5 by omega,show op ≠ 6 by omega,show op ≠ 7 by omega,show op ≠ 8 by omega,show op ≠ 9 by omega,show op ≠ 10 by omega]
  rw [this] at h
  simp at h
theorem yC2 {n : Nd} {os : List Nat} (hI : ∀ k,k < os.length → os.getD k 0 ≤ k + 1) (h : szN n os ≠ 0) : (1 ≤ chn n.op → 0 ≤ n.a ∧ n.a < os.length) ∧ (chn n.op = 2 → 0 ≤ n.b ∧ n.b < os.length) := by
 unfold szN at h
 split at h
 ·constructor <;> intro q <;> omega
 split at h
 ·exact absurd rfl h
 rename_i h1
 rw [not_or] at h1
 split at h
 ·split at h
  ·rename_i q
   refine ⟨fun _ => ?_,fun _ => ?_⟩ <;> omega
  ·exact absurd rfl h
 split at h
 ·exact absurd rfl h
 split at h
 ·rename_i q
  refine ⟨fun _ => ?_,fun _ => ?_⟩ <;> omega
 ·exact absurd rfl h
theorem yC3 {n : Nd} {os : List Nat} (hI : ∀ k,k < os.length → os.getD k 0 ≤ k + 1) (h : xMm n (szN n os) = 0) : Vn os.length n := by
 unfold xMm at h
 split at h
 ·cases h
 rename_i h0
 split at h
 ·cases h
 rename_i h1
 split at h
 ·cases h
 rename_i h2
 have ho := yC1 (by simpa using h0)
 unfold yDV at h1
 unfold yDW at h2
 simp only [Bool.or_eq_true,Bool.and_eq_true,not_or,not_and,Bool.not_eq_true',decide_eq_true_eq,decide_eq_false_iff_not,Bool.not_eq_true,Bool.not_eq_false,Bool.not_eq_eq_eq_not,Bool.not_false,Bool.not_true] at h1 h2
 obtain ⟨⟨⟨⟨q1,q2⟩,q3⟩,q4⟩,q5⟩ := h1
 obtain ⟨⟨r1,r2⟩,r3⟩ := h2
 have hs := yC2 hI (by simpa using q3)
 have hhi := xZd n.op
 have q4' : ¬ n.args.length < flo n.op := by simpa using q4
 have q5' : ¬ fhi n.op < n.args.length := by simpa using q5
 refine ⟨ho,by omega,?_,?_,?_,hs.1,hs.2⟩
 ·exact wi_iff.1 (by simpa using r3)
 ·intro e
  rw [e] at q4' q5'
  have e1 : flo 3 = 2 := rfl
  have e2 : fhi 3 = 2 := rfl
  omega
 ·intro e
  have := wi_iff.1 (show wi 8 10 [n.x] = true by simpa using r2 e) n.x (by simp)
  omega
theorem xRq : ∀ (fs : List Nd) (os : List Nat),(szs fs os).take os.length = os
 | [],os => by simp [szs]
 | n :: fs,os => by
  rw [szs]
  have := xRq fs (os ++ [szN n os])
  have h2 := congrArg (List.take os.length) this
  rw [List.take_take,List.length_append,Nat.min_eq_left (by omega),List.take_append_of_le_length (Nat.le_refl _),List.take_of_length_le (Nat.le_refl _)] at h2
  exact h2
theorem xXD (n : Nd) (fs : List Nd) (os : List Nat) : (szs (n :: fs) os).drop os.length = szN n os :: (szs fs (os ++ [szN n os])).drop (os ++ [szN n os]).length := by
 rw [szs]
 have h1 := xRq fs (os ++ [szN n os])
 have hl := xGD fs (os ++ [szN n os])
 simp only [List.length_append,List.length_singleton] at h1 hl ⊢
 rw [List.drop_eq_getElem_cons (by omega)]
 congr 1
 have h3 : (List.take (os.length + 1) (szs fs (os ++ [szN n os])))[os.length]? = (os ++ [szN n os])[os.length]? := by rw [h1]
 rw [List.getElem?_take_of_lt (by omega),List.getElem?_append_right (Nat.le_refl _),Nat.sub_self,List.getElem?_eq_getElem (by omega)] at h3
 simpa using h3
theorem xRr : ∀ (fs : List Nd) (os : List Nat),(∀ k,k < os.length → os.getD k 0 ≤ k + 1) → xHc fs ((szs fs os).drop os.length) = 0 → ∀ j,j < fs.length → Vn (os.length + j) (fs.getD j nd0)
 | [],os,hI,h,j,hj => by simp at hj
 | n :: fs,os,hI,h,j,hj => by
  rw [xXD,xHc] at h
  split at h
  ·rename_i h0
   cases j with
   | zero => exact yC3 hI h0
   | succ j =>
    have := xRr fs (os ++ [szN n os]) (xMe hI) h j (by simpa using hj)
    rw [List.length_append,List.length_singleton] at this
    rw [show os.length + (j + 1) = os.length + 1 + j by omega]
    simpa using this
  ·contradiction
theorem xVF (n : Nd) (s : Nat) : xMm n s ≤ 6 := by unfold xMm; split <;> (try split) <;> (try split) <;> omega
theorem xVG : ∀ (fs : List Nd) (ss : List Nat),xHc fs ss ≤ 6
 | [],_ => by simp [xHc]
 | n :: fs,[] => by simp [xHc]
 | n :: fs,s :: ss => by
  rw [xHc]
  split
  ·exact xVG fs ss
  ·exact xVF n s
theorem xL9 {fs : List Nd} (h : chk fs = 0) : 0 < fs.length ∧ fs.length ≤ 64 ∧ ∀ j,j < fs.length → Vn j (fs.getD j nd0) := by
 unfold chk at h
 split at h
 ·cases h
 split at h
 ·cases h
 split at h
 ·rename_i h0
  refine ⟨by omega,by omega,fun j hj => ?_⟩
  have := xRr fs [] (by simp) (by simpa using h0) j hj
  simpa using this
 ·contradiction
section
variable {fz : Bool} {fs : List Nd} {ss : List Nat}
abbrev F34 (fz : Bool) (fs : List Nd) (ss : List Nat) (r : Int) (i : Nat) : List AV := xNW (.sl fz fs.length (nds fs)) (.int .i64 r) (.sl false fs.length (xAX ss)) (.sl fz fs.length (nds fs)) (.int .i64 (fs.length : Nat)) (.int .i64 (i : Nat))
theorem yC4 (hlen : fs.length ≤ 64) (hs : ss.length = fs.length) : ∀ k i,i + k = fs.length → ∀ G,∃ (i' : Nat) (G' : Heap),
  L.loop xKF xUV ⟨F34 fz fs ss 0 i,G⟩ =
   some (if xHc (fs.drop i) (ss.drop i) = 0 then (.exit 1,⟨F34 fz fs ss 0 fs.length,G'⟩) else (.ret,⟨F34 fz fs ss (xHc (fs.drop i) (ss.drop i) : Nat) i',G'⟩)) := by
 intro k
 induction k with
 | zero =>
  intro i hi G
  obtain rfl : i = fs.length := by omega
  refine ⟨fs.length,G,?_⟩
  rw [if_pos (by rw [List.drop_length]; rfl),xUW]
  simp (maxSteps := 30000000) (disch := first|exact D4|fail) only [xNV,WB,↓reduceIte,xIB]
 | succ k ih =>
  intro i hi G
  have hlt : i < fs.length := by omega
  have hltI : ((i : Nat) : Int) < (fs.length : Nat) := by omega
  have em : xHc (fs.drop i) (ss.drop i) = (if xMm (fs.getD i nd0) (ss.getD i 0) = 0 then xHc (fs.drop (i + 1)) (ss.drop (i + 1)) else xMm (fs.getD i nd0) (ss.getD i 0)) := by
   rw [List.drop_eq_getElem_cons hlt,List.drop_eq_getElem_cons (show i < ss.length by omega),xHc,List.getD_eq_getElem?_getD,List.getElem?_eq_getElem hlt,List.getD_eq_getElem?_getD,List.getElem?_eq_getElem (by omega)]
   rfl
  rw [em]
  obtain ⟨i',G',ih'⟩ := ih (i + 1) (by omega) (G ++ [.cells false false (fs.getD i nd0).c])
  generalize hn : fs.getD i nd0 = n at *
  have h67 := yAZ n (ss.getD i 0)
  have hle := xVF n (ss.getD i 0)
  have hz : ss.getD i 0 = ss.getD i 0 := rfl
  generalize hsv : ss.getD i 0 = sv at *
  have hnv : xA7 n.z n.args = .sl n.z n.args.length (xAv n.args) := rfl
  unfold Nd.c at h67 ih'
  rw [hnv] at h67 ih'
  generalize hcv : xMm n sv = e at *
  by_cases c : e = 0
  ·subst c
   simp only [if_true]
   refine ⟨i',G',?_⟩
   rw [xUW]
   simp (maxSteps := 30000000) (disch := first|exact D4|fail) only [xNV,WB,hltI,↓reduceIte,xAw,Nd.c,hn,hnv,AV.cells,AV.isCell,Nat.reduceAdd,xBl,xBP,xAl,hsv,h67,xAD,xAn,xIB,ih']
  ·have c' : ¬ ((e : Nat) : Int) = 0 := by omega
   simp only [if_neg c]
   refine ⟨i,G ++ [.cells false false [.int .u8 (n.op : Nat),.int .i64 n.name,.sl n.z n.args.length (xAv n.args),.int .i64 n.x,.int .i64 n.a,.int .i64 n.b]],?_⟩
   rw [xUW]
   simp (maxSteps := 30000000) (disch := first|exact D4|fail) only [xNV,WB,hltI,↓reduceIte,xAw,Nd.c,hn,hnv,AV.cells,AV.isCell,Nat.reduceAdd,xBl,xBP,xAl,hsv,h67,xAD,xAn,c',xIB]
theorem xI0 (fz : Bool) (fs : List Nd) (h47 : fs.length < 1000) : L.pcall 34 [.sl fz fs.length (nds fs)] = some (.int .i64 (chk fs : Nat)) := by
 unfold chk
 by_cases c1 : fs.length = 0
 ·rw [if_pos c1]
  have c1' : ((fs.length : Nat) : Int) = 0 := by omega
  rw [yBA,a34,xAb]
  simp (maxSteps := 30000000) (disch := first|exact D4|fail) only [WB,Nat.reduceSub,c1',↓reduceIte]
 have c1' : ¬ ((fs.length : Nat) : Int) = 0 := by omega
 rw [if_neg c1]
 by_cases c2 : 64 < fs.length
 ·rw [if_pos c2]
  have c2' : (64 : Int) < ((fs.length : Nat) : Int) := by omega
  rw [yBA,a34,xAb]
  simp (maxSteps := 30000000) (disch := first|exact D4|fail) only [WB,Nat.reduceSub,c1',↓reduceIte,c2']
 have c2' : ¬ (64 : Int) < ((fs.length : Nat) : Int) := by omega
 rw [if_neg c2]
 have h66 := yAX (fz := fz) (show fs.length ≤ 64 by omega)
 have hsl := xGD fs []
 have hv0 := xRr fs [] (by simp)
 have hle := xVG fs (szs fs [])
 have hend : xHc fs (szs fs []) = 0 → ∀ j,j < fs.length → Vn j (fs.getD j nd0) := by
  intro h0 j hj
  have := hv0 (by simpa using h0) j hj
  simpa using this
 simp only [List.length_nil,Nat.zero_add] at hsl
 generalize szs fs [] = ss at *
 obtain ⟨i',G',e1⟩ := yC4 (fz := fz) (show fs.length ≤ 64 by omega) hsl fs.length 0 (by omega) []
 simp only [List.drop_zero] at e1
 have e1' : L.loop xKF xUV ⟨xNW (.sl fz fs.length (nds fs)) (.int .i64 0) (.sl false fs.length (xAX ss)) (.sl fz fs.length (nds fs)) (.int .i64 (fs.length : Nat)) (.int .i64 0),[]⟩ = _ := e1
 by_cases c3 : xHc fs ss = 0
 ·rw [if_pos c3] at e1' ⊢
  have h42 := yC0 (fz := fz) (show fs.length ≤ 64 by omega) (hend c3) fs.length (fs.length - 1) 0 (by omega) (by omega) (by omega)
  have hsub : ((fs.length : Nat) : Int) - 1 = ((fs.length - 1 : Nat) : Int) := by omega
  have h42 : L.pcall 42 [.sl fz fs.length (nds fs),.int .i64 (fs.length - 1 : Nat),.int .u64 0] = _ := h42
  generalize hsv : ss.getD (fs.length - 1) 0 = v
  by_cases c4 : v = fs.length
  ·rw [if_pos c4]
   have c4' : (((v : Nat) : Int) = (fs.length : Nat)) = True := eq_true (by omega)
   cases ho : opn fs fs.length (fs.length - 1) 0 with
   | true =>
    rw [ho] at h42
    rw [yBA,a34,xAb]
    simp (maxSteps := 30000000) (disch := first|exact D4|fail) only [WB,Nat.reduceSub,c1',↓reduceIte,c2',h66,xAD,xAn,xIB,e1',hsub,hsv,c4',h42]
   | false =>
    rw [ho] at h42
    rw [yBA,a34,xAb]
    simp (maxSteps := 30000000) (disch := first|exact D4|fail) only [WB,Nat.reduceSub,c1',↓reduceIte,c2',h66,xAD,xAn,xIB,e1',hsub,hsv,c4',h42]
  ·rw [if_neg c4]
   have c4' : ¬ (((v : Nat) : Int) = (fs.length : Nat)) := by omega
   rw [yBA,a34,xAb]
   simp (maxSteps := 30000000) (disch := first|exact D4|fail) only [WB,Nat.reduceSub,c1',↓reduceIte,c2',h66,xAD,xAn,xIB,e1',hsub,hsv,c4']
 ·rw [if_neg c3] at e1' ⊢
  generalize xHc fs ss = r at *
  rw [yBA,a34,xAb]
  simp (maxSteps := 30000000) (disch := first|exact D4|fail) only [WB,Nat.reduceSub,c1',↓reduceIte,c2',h66,xAD,xAn,xIB,e1']
end
theorem xRs {l : List Nat} (h : l.Nodup) : ∀ i j,i < j → j < l.length → l[i]? ≠ l[j]? := by
 intro i j hij hj e
 unfold List.Nodup at h
 rw [List.pairwise_iff_getElem] at h
 rw [List.getElem?_eq_getElem (by omega : i < l.length),List.getElem?_eq_getElem hj] at e
 exact h i j (by omega) hj hij (Option.some.inj e)
theorem xXE {l : List Nat} (h : ∀ i j,i < j → j < l.length → l[i]? ≠ l[j]?) : l.Nodup := by
 unfold List.Nodup
 rw [List.pairwise_iff_getElem]
 intro i j hi hj hij e
 exact h i j hij hj (by rw [List.getElem?_eq_getElem hi,List.getElem?_eq_getElem hj,e])
def xSA (k : Nat) (l : List Int) : AV := .own (l.length == 0) k 0 l.length 1
def xOr (l : List Int) : Blk := .cells false (l.length == 0) (xAv l)
abbrev ons {α : Type} (c : α → Nat → List AV) (lo : List (α × Nat)) : List AV := rows (fun p => c p.1 p.2) lo
structure Ow {α : Type} (c : α → Nat → List AV) (ar : α → List Int) (G : Heap) (o : Nat) (lo : List (α × Nat)) : Prop where
 go : G[o]? = some (.cells false false (ons c lo))
 ne : lo ≠ []
 bl : ∀ p ∈ lo,p.2 ≠ o ∧ G[p.2]? = some (xOr (ar p.1))
 nd : (lo.map (·.2)).Nodup
section
variable {α : Type} {c : α → Nat → List AV} {ar : α → List Int} {G : Heap} {o : Nat} {lo : List (α × Nat)}
theorem Ow.one (x y : Blk) (a : α) : Ow c ar (G ++ [x,xOr (ar a),y,.cells false false (c a (G.length + 1))]) (G.length + 3) [(a,G.length + 1)] where
 go := by rw [List.getElem?_append_right (by omega),show G.length + 3 - G.length = 3 by omega]; simp [rows]
 ne := by simp
 bl p hp := by
  rw [List.mem_singleton] at hp
  subst hp
  refine ⟨by show G.length + 1 ≠ G.length + 3; omega,?_⟩
  show (G ++ _)[G.length + 1]? = _
  rw [List.getElem?_append_right (by omega),show G.length + 1 - G.length = 1 by omega]; rfl
 nd := by simp
theorem Ow.snoc (h : Ow c ar G o lo) (x y : Blk) (a : α) : Ow c ar (G.set o .dead ++ [x,xOr (ar a),y,.cells false false (ons c (lo ++ [(a,G.length + 1)]))]) (G.length + 3) (lo ++ [(a,G.length + 1)]) where
 go := by rw [List.getElem?_append_right (by simp),List.length_set,show G.length + 3 - G.length = 3 by omega]; rfl
 ne := by simp
 bl p hp := by
  rcases List.mem_append.1 hp with hp | hp
  ·obtain ⟨h1,h2⟩ := h.bl p hp
   have l2 := xAQ h2
   exact ⟨by omega,by rw [xAC (by simpa using l2),xBG (Ne.symm h1)]; exact h2⟩
  ·rw [List.mem_singleton] at hp
   subst hp
   refine ⟨by show G.length + 1 ≠ G.length + 3; omega,?_⟩
   show (G.set o .dead ++ _)[G.length + 1]? = _
   rw [List.getElem?_append_right (by simp),List.length_set,show G.length + 1 - G.length = 1 by omega]; rfl
 nd := by
  rw [List.map_append,List.nodup_append]
  refine ⟨h.nd,by simp,?_⟩
  intro a1 ha b hb
  obtain ⟨p,hp,rfl⟩ := List.mem_map.1 ha
  have := xAQ (h.bl p hp).2
  simp at hb
  omega
theorem xVH (lo : List (α × Nat)) (a : α) (k : Nat) : ons c lo ++ c a k = ons c (lo ++ [(a,k)]) := by
 show rows _ lo ++ _ = rows _ (lo ++ [(a,k)])
 rw [← xMj]
 simp [rows]
theorem Ow.frz (h : Ow c ar G o lo) {e : α → List AV} (d : Nat) (hc : ∀ p ∈ lo,(c p.1 p.2).mapM (frz (d + 1) G) = some (e p.1)) : (ons c lo).mapM (frz (d + 1) G) = some (rows e (lo.map (·.1))) := by
 have hb := h.bl
 clear h
 induction lo with
 | nil => rfl
 | cons p lo ih =>
  show (c p.1 p.2 ++ ons c lo).mapM _ = some (e p.1 ++ rows e (lo.map (·.1)))
  exact mapM_append' (hc p List.mem_cons_self) (ih (fun q hq => hc q (List.mem_cons_of_mem _ hq)) (fun q hq => hb q (List.mem_cons_of_mem _ hq)))
theorem xXF {k : Nat} {l : List Int} (d : Nat) (h : G[k]? = some (xOr l)) : Go.Abs.frz (d + 1) G (xSA k l) = some (.sl (l.length == 0) l.length (xAv l)) := by
 unfold xSA
 rw [xAU,h]
 unfold xOr
 rw [xBv (by rw [xBj]; omega)]
 have : List.take (l.length * 1) (List.drop 0 (xAv l)) = xAv l := by rw [List.drop_zero,Nat.mul_one,List.take_of_length_le (by rw [xBj]; omega)]
 rw [this,xFX]
 rfl
theorem Ow.put (h : Ow c ar G o lo) {i : Nat} {p : α × Nat} (hp : lo[i]? = some p) (a' : α) (hl : (ar a').length = (ar p.1).length) (hc : c a' p.2 = c p.1 p.2) : Ow c ar (G.set p.2 (xOr (ar a'))) o (lo.set i (a',p.2)) := by
 obtain ⟨hi,hpe⟩ := List.getElem?_eq_some_iff.1 hp
 have hm : p ∈ lo := by rw [← hpe]; exact List.getElem_mem hi
 obtain ⟨b1,b2⟩ := h.bl p hm
 refine ⟨?_,?_,?_,?_⟩
 ·rw [xBG b1,h.go]
  congr 2
  show List.flatten _ = List.flatten _
  congr 1
  rw [List.map_set]
  have : (lo.map fun p => c p.1 p.2)[i]? = some (c a' p.2) := by rw [List.getElem?_map,hp]; simp [hc]
  obtain ⟨hk,hx⟩ := List.getElem?_eq_some_iff.1 this
  show _ = List.set _ i (c a' p.2)
  rw [← hx,List.set_getElem_self]
 ·intro q; have := congrArg List.length q; simp at this; exact h.ne this
 ·intro q hq
  rw [List.mem_iff_getElem?] at hq
  obtain ⟨j,hj⟩ := hq
  rw [List.getElem?_set] at hj
  by_cases c1 : i = j
  ·rw [if_pos c1,if_pos (by omega)] at hj
   cases hj
   exact ⟨b1,xDH (xAQ b2)⟩
  ·rw [if_neg c1] at hj
   obtain ⟨hj1,hj2⟩ := List.getElem?_eq_some_iff.1 hj
   have hqm : q ∈ lo := by rw [← hj2]; exact List.getElem_mem hj1
   obtain ⟨q1,q2⟩ := h.bl q hqm
   refine ⟨q1,?_⟩
   have hne : q.2 ≠ p.2 := by
    intro e
    have hnd := xRs h.nd
    rcases Nat.lt_or_gt_of_ne c1 with hlt | hlt
    ·exact hnd i j hlt (by simpa using hj1) (by rw [List.getElem?_map,List.getElem?_map,hp,hj]; simp [e])
    ·exact hnd j i hlt (by simpa using hi) (by rw [List.getElem?_map,List.getElem?_map,hp,hj]; simp [e])
   rw [xBG (Ne.symm hne)]; exact q2
 ·rw [List.map_set]
  have : (lo.map (·.2))[i]? = some p.2 := by rw [List.getElem?_map,hp]; rfl
  obtain ⟨hk,hx⟩ := List.getElem?_eq_some_iff.1 this
  show (List.set _ i p.2).Nodup
  rw [← hx,List.set_getElem_self]
  exact h.nd
end
def xAG (n : Nd) (k : Nat) : List AV := [.int .u8 (n.op : Nat),.int .i64 n.name,xSA k n.args,.int .i64 n.x,.int .i64 n.a,.int .i64 n.b]
theorem isE {α : Type} (l : List α) : (l.length == 0) = l.isEmpty := by cases l <;> rfl
theorem xFU {n : Nd} {k d : Nat} {G : Heap} (hw : n.z = n.args.isEmpty) (h : G[k]? = some (xOr n.args)) : (xAG n k).mapM (frz (d + 1) G) = some n.c := by
 unfold xAG Nd.c xA7
 simp only [List.mapM_cons,xCM,xXF d h,List.mapM_nil,hw,isE]
 rfl
theorem xCP {α : Type} {c : α → Nat → List AV} {w : Nat} (hw : ∀ a k,(c a k).length = w) (lo : List (α × Nat)) : (ons c lo).length = lo.length * w := xCQ (fun p => hw p.1 p.2) lo
theorem xDD {α : Type} {c : α → Nat → List AV} {w : Nat} (hw : ∀ a k,(c a k).length = w) (lo : List (α × Nat)) : List.take (lo.length * w) (ons c lo) = ons c lo := by rw [← xCP hw,List.take_length]
theorem xY9 {α : Type} {c : α → Nat → List AV} {w : Nat} (hw : ∀ a k,(c a k).length = w) {lo : List (α × Nat)} {i : Nat} {p : α × Nat} (h : lo[i]? = some p) : List.take w (List.drop (i * w) (ons c lo)) = c p.1 p.2 := by
 obtain ⟨hi,rfl⟩ := List.getElem?_eq_some_iff.1 h
 rw [show List.drop (i * w) (ons c lo) = ons c (lo.drop i) from xDk (fun p => hw p.1 p.2) i lo,List.drop_eq_getElem_cons hi]
 show List.take w (c lo[i].1 lo[i].2 ++ _) = _
 exact List.take_left' (hw _ _)
def WN (n : Nd) : Prop := n.z = n.args.isEmpty
theorem yAD (d : Nat) (H : Heap) (n : Nd) : n.c.mapM (frz d H) = some n.c := by
 unfold Nd.c xA7
 simp [List.mapM_cons,xCM,xEi]
theorem xVI (d : Nat) (H : Heap) : ∀ l : List Nd,(nds l).mapM (frz d H) = some (nds l)
 | [] => rfl
 | n :: l => mapM_append' (yAD d H n) (xVI d H l)
theorem xMa (l : List Nd) : List.take (l.length * 6) (nds l) = nds l := List.take_of_length_le (by rw [xAf]; omega)
def ndV (p : Nd × AV) : List AV := [.int .u8 (p.1.op : Nat),.int .i64 p.1.name,p.2,.int .i64 p.1.x,.int .i64 p.1.a,.int .i64 p.1.b]
theorem xPC (p : Nd × AV) : (ndV p).length = 6 := rfl
abbrev vns (l : List (Nd × AV)) : List AV := rows ndV l
theorem xMb (l : List (Nd × AV)) : (vns l).length = l.length * 6 := xCQ xPC l
theorem xXG (l : List (Nd × AV)) : List.take (l.length * 6) (vns l) = vns l := List.take_of_length_le (by rw [xMb]; omega)
theorem yC5 {l : List (Nd × AV)} {i : Nat} {p : Nd × AV} (h : l[i]? = some p) : List.take 6 (List.drop (i * 6) (vns l)) = ndV p := by
 obtain ⟨hi,rfl⟩ := List.getElem?_eq_some_iff.1 h
 rw [show List.drop (i * 6) (vns l) = vns (l.drop i) from xDk xPC i l,List.drop_eq_getElem_cons hi]
 exact List.take_left' (xPC _)
theorem yAE {l : List (Nd × AV)} {i : Nat} {p : Nd × AV} (h : l[i]? = some p) (v : AV) : List.take (i * 6 + 2) (vns l) ++ (v :: List.drop (i * 6 + 2 + 1) (vns l)) = vns (l.set i (p.1,v)) := by
 obtain ⟨hi,rfl⟩ := List.getElem?_eq_some_iff.1 h
 have e1 : vns l = vns (l.take i) ++ (ndV l[i] ++ vns (l.drop (i + 1))) := by
  show _ = rows ndV (l.take i) ++ (ndV l[i] ++ rows ndV (l.drop (i + 1)))
  have : ndV l[i] ++ rows ndV (l.drop (i + 1)) = rows ndV (l.drop i) := by rw [List.drop_eq_getElem_cons hi]; rfl
  rw [this,xMj,List.take_append_drop]
 have e2 : l.set i (l[i].1,v) = l.take i ++ ((l[i].1,v) :: l.drop (i + 1)) := by rw [List.set_eq_take_append_cons_drop,if_pos hi]
 have hl : (vns (l.take i)).length = i * 6 := by rw [xMb,List.length_take,Nat.min_eq_left (by omega)]
 rw [e2,show vns (l.take i ++ ((l[i].1,v) :: l.drop (i + 1))) = vns (l.take i) ++ (ndV (l[i].1,v) ++ vns (l.drop (i + 1))) from (xMj ndV _ _).symm,e1,← hl]
 rw [List.take_length_add_append,show (vns (l.take i)).length + 2 + 1 = (vns (l.take i)).length + 3 from rfl,List.drop_length_add_append,List.append_assoc]
 rfl
def SrcA (G : Heap) (B : Nat) (p : Nd × AV) : Prop := p.2 = xA7 p.1.z p.1.args ∨ ∃ k,k < B ∧ p.2 = xSA k p.1.args ∧ G[k]? = some (xOr p.1.args)
def CpA (G : Heap) (B ob : Nat) (p : Nd × AV) : Prop := (p.1.args = [] ∧ p.2 = .sl true 0 []) ∨ (p.1.args ≠ [] ∧ ∃ k,B ≤ k ∧ k ≠ ob ∧ p.2 = .own false k 0 p.1.args.length 1 ∧ G[k]? = some (.cells false false (xAv p.1.args)))
theorem SrcA.keep {G G' : Heap} {B : Nat} {p : Nd × AV} (h : SrcA G B p) (hk : ∀ k,k < B → G'[k]? = G[k]?) : SrcA G' B p := by
 rcases h with h | ⟨k,h1,h2,h3⟩
 ·exact .inl h
 ·exact .inr ⟨k,h1,h2,(hk k h1).trans h3⟩
theorem CpA.keep {G G' : Heap} {B ob : Nat} {p : Nd × AV} (h : CpA G B ob p) (hk : ∀ k,k < G.length → k ≠ ob → G'[k]? = G[k]?) : CpA G' B ob p := by
 rcases h with h | ⟨h0,k,h1,h2,h3,h4⟩
 ·exact .inl h
 ·exact .inr ⟨h0,k,h1,h2,h3,(hk k (xAQ h4) h2).trans h4⟩
theorem CpA.frz {G : Heap} {B ob d : Nat} {p : Nd × AV} (h : CpA G B ob p) (hw : WN p.1) : (ndV p).mapM (Go.Abs.frz (d + 1) G) = some p.1.c := by
 unfold ndV Nd.c xA7
 unfold WN at hw
 rcases h with ⟨h1,h2⟩ | ⟨h1,k,-,-,h3,h4⟩
 ·rw [h1] at hw
  rw [h1,h2,hw]
  simp only [List.mapM_cons,xCM,xEi,List.mapM_nil]
  rfl
 ·have hz : p.1.args.isEmpty = false := by cases hq : p.1.args with
   | nil => exact absurd hq h1
   | cons _ _ => rfl
  have hf : Go.Abs.frz (d + 1) G (.own false k 0 p.1.args.length 1) = some (.sl false p.1.args.length (xAv p.1.args)) := by
   rw [xAU,h4,xBv (by rw [xBj]; omega)]
   have : List.take (p.1.args.length * 1) (List.drop 0 (xAv p.1.args)) = xAv p.1.args := by rw [List.drop_zero,Nat.mul_one,List.take_of_length_le (by rw [xBj]; omega)]
   rw [this,xFX]; rfl
  rw [h3,hw,hz]
  simp only [List.mapM_cons,xCM,hf,List.mapM_nil]
  rfl
theorem xVJ {G : Heap} {B ob d : Nat} : ∀ {l : List (Nd × AV)},(∀ p ∈ l,CpA G B ob p) → (∀ p ∈ l,WN p.1) → (vns l).mapM (frz (d + 1) G) = some (nds (l.map (·.1)))
 | [],_,_ => rfl
 | p :: l,h,hw => by
  show (ndV p ++ vns l).mapM _ = some (p.1.c ++ nds (l.map (·.1)))
  exact mapM_append' ((h p List.mem_cons_self).frz (hw p List.mem_cons_self)) (xVJ (fun q hq => h q (List.mem_cons_of_mem _ hq)) (fun q hq => hw q (List.mem_cons_of_mem _ hq)))
theorem xVK {G : Heap} {B ob d : Nat} : ∀ {l : List (Nd × AV)},(∀ p ∈ l,CpA G B ob p) → ∀ k ∈ (vns l).flatMap (bor (d + 1) G),B ≤ k
 | [],_,k,hk => by simp [rows] at hk
 | p :: l,h,k,hk => by
  have hk : k ∈ (ndV p ++ vns l).flatMap (bor (d + 1) G) := hk
  rw [List.flatMap_append,List.mem_append] at hk
  rcases hk with hk | hk
  ·unfold ndV at hk
   simp only [List.flatMap_cons,xGe,List.flatMap_nil,List.nil_append,List.append_nil] at hk
   rcases h p List.mem_cons_self with ⟨-,h2⟩ | ⟨-,j,h1,-,h3,h4⟩
   ·rw [h2,xNv] at hk; cases hk
   ·rw [h3,xCN,h4,xDj] at hk
    rcases List.mem_cons.1 hk with rfl | hk
    ·exact h1
    ·have : List.take (p.1.args.length * 1) (List.drop 0 (xAv p.1.args)) = xAv p.1.args := by rw [List.drop_zero,Nat.mul_one,List.take_of_length_le (by rw [xBj]; omega)]
     rw [this,xXX] at hk; cases hk
  ·exact xVK (fun q hq => h q (List.mem_cons_of_mem _ hq)) k hk
theorem xVL {B : Nat} : ∀ (ids : List Nat) (H : Heap),(∀ k ∈ ids,B ≤ k) → Kp B H (fzIds H ids)
 | [],H,_ => .refl _ _
 | i :: ids,H,h => by
  have hi := h i List.mem_cons_self
  have h1 : Kp B H (H.modify i xBM) := ⟨by simp,fun b hb => by rw [List.getElem?_modify]; simp [show ¬ i = b by omega]⟩
  exact h1.trans (xVL ids _ fun k hk => h k (List.mem_cons_of_mem _ hk))
section
variable {G : Heap} {B : Nat} {p : Nd × AV}
theorem xVM (h : SrcA G B p) (hw : WN p.1) (he : p.1.args = []) : L.icall (.func 83 []) [p.2] G = some (.sl true 0 [],G) := by
 unfold WN at hw
 rcases h with h | ⟨k,-,h,-⟩
 ·rw [h,hw,he]
  show L.icall (.func 83 []) [.sl true 0 []] G = _
  rw [yDT,a83,xAm]
  simp (maxSteps := 30000000) (disch := first|exact D4|fail) only [WB,Nat.reduceSub,↓reduceIte]
 ·rw [h,he]
  show L.icall (.func 83 []) [.own true k 0 0 1] G = _
  rw [yDT,a83,xAm]
  simp (maxSteps := 30000000) (disch := first|exact D4|fail) only [WB,Nat.reduceSub,↓reduceIte]
theorem xVN (h : SrcA G B p) (hw : WN p.1) (he : p.1.args ≠ []) (hl : p.1.args.length ≤ 1000) : L.icall (.func 83 []) [p.2] G = some (.own false (G.length + 1) 0 p.1.args.length 1,G ++ [.dead,.cells false false (xAv p.1.args)]) := by
 unfold WN at hw
 have hz : p.1.args.isEmpty = false := by cases hq : p.1.args with
  | nil => exact absurd hq he
  | cons _ _ => rfl
 have hz2 : (p.1.args.length == 0) = false := by rw [isE]; exact hz
 rw [hz] at hw
 rcases h with h | ⟨k,-,h,g⟩
 ·rw [h,hw]
  unfold xA7
  generalize p.1.args = l at *
  rw [yDT,a83,xAm]
  simp (maxSteps := 30000000) (disch := first|exact D4|fail) only [WB,Nat.reduceSub,↓reduceIte,AV.cells,xBl,xBP]
 ·rw [h]
  have lk := xAQ g
  unfold xOr at g
  unfold xSA
  rw [hz2] at g ⊢
  generalize p.1.args = l at *
  rw [yDT,a83,xAm]
  simp (maxSteps := 30000000) (disch := first|exact D4|fail) only [WB,Nat.reduceSub,↓reduceIte,AV.cells,xAC,g,W2,xBl,xBP]
end
section
variable {ob B N : Nat}
abbrev F50 (N ob i : Nat) : List AV := xN0 (.own false ob 0 N 6) (.own false ob 0 N 6) (.int .i64 (N : Nat)) (.int .i64 (i : Nat))
theorem yC6 (hN : N ≤ 64) (hob : B ≤ ob) : ∀ k i,i + k = N → ∀ (G : Heap) (lp : List (Nd × AV)),lp.length = N → B ≤ G.length → (∀ p ∈ lp,WN p.1 ∧ p.1.args.length ≤ 1000) → G[ob]? = some (.cells false false (vns lp)) → (∀ j p,lp[j]? = some p → if j < i then CpA G B ob p else SrcA G B p) →
  ∃ (G' : Heap) (lp' : List (Nd × AV)),L.loop xKO xU0 ⟨F50 N ob i,G⟩ = some (.exit 0,⟨F50 N ob N,G'⟩) ∧ G'[ob]? = some (.cells false false (vns lp')) ∧ (∀ p ∈ lp',CpA G' B ob p) ∧ lp'.map (·.1) = lp.map (·.1) ∧ Kp B G G' := by
 intro k
 induction k with
 | zero =>
  intro i hi G lp hl hB hp go hinv
  obtain rfl : i = N := by omega
  refine ⟨G,lp,?_,go,fun p hpm => ?_,rfl,.refl _ _⟩
  ·rw [xU1]
   simp (maxSteps := 30000000) (disch := first|exact D4|fail) only [xNZ,WB,↓reduceIte,xQ4]
  ·obtain ⟨j,hj⟩ := List.mem_iff_getElem?.1 hpm
   have := hinv j p hj
   rw [if_pos (by have := (List.getElem?_eq_some_iff.1 hj).1; omega)] at this
   exact this
 | succ k ih =>
  intro i hi G lp hl hB hp go hinv
  have hlt : i < N := by omega
  have hltI : ((i : Nat) : Int) < (N : Nat) := by omega
  have lo := xAQ go
  have hpi : lp[i]? = some lp[i] := List.getElem?_eq_getElem (by omega)
  have hs := hinv i _ hpi
  rw [if_neg (by omega)] at hs
  obtain ⟨hw,ha⟩ := hp lp[i] (List.getElem_mem (by omega))
  have hat := yC5 hpi
  have hlen := xMb lp
  rw [hl] at hlen
  have hput := fun v => yAE hpi v
  have hcell : lp[i].2.isCell = true := by
   rcases hs with h | ⟨k,-,h,-⟩ <;> rw [h] <;> rfl
  have hgb : ∀ (x : Blk) (k : Nat),k < G.length → (G ++ [x])[k]? = G[k]? := fun x k hk => xAC hk
  have hset_inv : ∀ (v : AV) (G2 : Heap),(∀ k,k < G.length → k ≠ ob → G2[k]? = G[k]?) → CpA G2 B ob (lp[i].1,v) → ∀ j q,(lp.set i (lp[i].1,v))[j]? = some q → if j < i + 1 then CpA G2 B ob q else SrcA G2 B q := by
   intro v G2 hk hc j q hj
   rw [List.getElem?_set] at hj
   by_cases c : i = j
   ·rw [if_pos c,if_pos (by omega)] at hj
    cases hj
    rw [if_pos (by omega)]; exact hc
   ·rw [if_neg c] at hj
    have := hinv j q hj
    by_cases c2 : j < i
    ·rw [if_pos c2] at this
     rw [if_pos (by omega)]
     exact this.keep hk
    ·rw [if_neg c2] at this
     rw [if_neg (by omega)]
     exact this.keep fun k hkB => hk k (by omega) (by omega)
  have hmem : ∀ (v : AV),∀ q ∈ lp.set i (lp[i].1,v),WN q.1 ∧ q.1.args.length ≤ 1000 := by
   intro v q hq
   rcases List.mem_or_eq_of_mem_set hq with hq | rfl
   ·exact hp q hq
   ·exact ⟨hw,ha⟩
  have hmap : ∀ (v : AV),(lp.set i (lp[i].1,v)).map (·.1) = lp.map (·.1) := by
   intro v
   rw [List.map_set]
   have : (lp.map (·.1))[i]? = some lp[i].1 := by rw [List.getElem?_map,hpi]; rfl
   obtain ⟨hk,hx⟩ := List.getElem?_eq_some_iff.1 this
   show List.set _ i lp[i].1 = _
   rw [← hx,List.set_getElem_self]
  by_cases he : lp[i].1.args = []
  ·have h83 := xVM (hs.keep (G' := G ++ [.cells false false (ndV lp[i])]) fun k hk => xAC (by omega)) hw he
   obtain ⟨G',lp',e1,g1,c1,m1,k1⟩ := ih (i + 1) (by omega) (G.set ob (.cells false false (vns (lp.set i (lp[i].1,.sl true 0 [])))) ++ [.cells false false (ndV lp[i])]) (lp.set i (lp[i].1,.sl true 0 [])) (by simpa using hl) (by simp; omega) (hmem _) (by rw [xAC (by simpa using lo),xDH lo])
    (hset_inv _ _ (fun k hk hne => by rw [xAC (by simpa using hk),xBG (Ne.symm hne)]) (.inl ⟨he,rfl⟩))
   refine ⟨G',lp',?_,g1,c1,m1.trans (hmap _),(((Kp.set hob).trans (Kp.appB _ _ (by simp; omega)))).trans k1⟩
   have hput' := hput (.sl true 0 [])
   generalize vns (lp.set i (lp[i].1,.sl true 0 [])) = L2 at *
   generalize vns lp = L1 at *
   have hv : ndV lp[i] = [.int .u8 (lp[i].1.op : Nat),.int .i64 lp[i].1.name,lp[i].2,.int .i64 lp[i].1.x,.int .i64 lp[i].1.a,.int .i64 lp[i].1.b] := rfl
   rw [hv] at hat h83 e1
   have hall : ([.int .u8 (lp[i].1.op : Nat),.int .i64 lp[i].1.name,lp[i].2,.int .i64 lp[i].1.x,.int .i64 lp[i].1.a,.int .i64 lp[i].1.b] : List AV).all AV.isCell = true := by simp only [List.all_cons,List.all_nil,hcell]; rfl
   rw [xU1]
   simp (maxSteps := 30000000) (disch := first|exact D4|fail) only [xNZ,WB,hltI,↓reduceIte,go,hat,AV.cells,AV.isCell,Nat.reduceAdd,xBl,xBP,h83,xAC,hput',xDG,xQ4,e1]
  ·have h83 := xVN (hs.keep (G' := G ++ [.cells false false (ndV lp[i])]) fun k hk => xAC (by omega)) hw he ha
   obtain ⟨G',lp',e1,g1,c1,m1,k1⟩ := ih (i + 1) (by omega) (G.set ob (.cells false false (vns (lp.set i (lp[i].1,.own false (G.length + 1 + 1) 0 lp[i].1.args.length 1)))) ++ [.cells false false (ndV lp[i]),.dead,.cells false false (xAv lp[i].1.args)]) (lp.set i (lp[i].1,.own false (G.length + 1 + 1) 0 lp[i].1.args.length 1)) (by simpa using hl) (by simp; omega) (hmem _) (by rw [xAC (by simpa using lo),xDH lo])
    (hset_inv _ _ (fun k hk hne => by rw [xAC (by simpa using hk),xBG (Ne.symm hne)]) (.inr ⟨he,G.length + 1 + 1,by omega,by omega,rfl,by rw [List.getElem?_append_right (by simp; omega),List.length_set,show G.length + 1 + 1 - G.length = 2 by omega]; rfl⟩))
   refine ⟨G',lp',?_,g1,c1,m1.trans (hmap _),(((Kp.set hob).trans (Kp.appB _ _ (by simp; omega)))).trans k1⟩
   have hput' := hput (.own false (G.length + 1 + 1) 0 lp[i].1.args.length 1)
   generalize vns (lp.set i (lp[i].1,.own false (G.length + 1 + 1) 0 lp[i].1.args.length 1)) = L2 at *
   generalize vns lp = L1 at *
   have hv : ndV lp[i] = [.int .u8 (lp[i].1.op : Nat),.int .i64 lp[i].1.name,lp[i].2,.int .i64 lp[i].1.x,.int .i64 lp[i].1.a,.int .i64 lp[i].1.b] := rfl
   rw [List.length_append] at h83
   rw [hv] at hat h83 e1
   have hall : ([.int .u8 (lp[i].1.op : Nat),.int .i64 lp[i].1.name,lp[i].2,.int .i64 lp[i].1.x,.int .i64 lp[i].1.a,.int .i64 lp[i].1.b] : List AV).all AV.isCell = true := by simp only [List.all_cons,List.all_nil,hcell]; rfl
   rw [xU1]
   simp (maxSteps := 30000000) (disch := first|exact D4|fail) only [xNZ,WB,hltI,↓reduceIte,go,hat,AV.cells,AV.isCell,Nat.reduceAdd,xBl,xBP,h83,xAC,hput',xDG,xQ4,e1]
end
def nT (l : List Nd) : Nat := (l.filter fun n => tmp n.op).length
def zr (c : Nat) : List (List Nat) := List.replicate c (List.replicate 64 0)
theorem xVO (c : Nat) : (zr c).flatten = List.replicate (64 * c) 0 := by
 unfold zr
 rw [List.flatten_replicate_replicate,Nat.mul_comm]
theorem xVP (fs : List Nd) : Rows fs (zr (nT fs)) := by
 refine ⟨by simp [zr,nT],fun w hw => ?_⟩
 have := List.eq_of_mem_replicate hw
 subst this
 refine ⟨by simp,fun x hx => ?_⟩
 have := List.eq_of_mem_replicate hx
 omega
theorem yC7 (l : List Nd) : nT l ≤ l.length := List.length_filter_le _ _
theorem xVQ {fs : List Nd} {i : Nat} (h : i < fs.length) : nT (fs.take (i + 1)) = nT (fs.take i) + (if tmp (fs.getD i nd0).op = true then 1 else 0) := by
 rw [List.take_succ_eq_append_getElem h]
 unfold nT
 rw [List.filter_append,List.length_append,List.getD_eq_getElem?_getD,List.getElem?_eq_getElem h]
 congr 1
 simp only [List.filter_cons,List.filter_nil,Option.getD_some]
 split <;> rfl
theorem yAF (fs : List Nd) : vns (fs.map fun n => (n,xA7 n.z n.args)) = nds fs := by
 show (((fs.map fun n => (n,xA7 n.z n.args))).map ndV).flatten = (fs.map Nd.c).flatten
 rw [List.map_map]; rfl
theorem yAG (lo : List (Nd × Nat)) : vns (lo.map fun p => (p.1,xSA p.2 p.1.args)) = ons xAG lo := by
 show (((lo.map fun p => (p.1,xSA p.2 p.1.args))).map ndV).flatten = (lo.map fun p => xAG p.1 p.2).flatten
 rw [List.map_map]; rfl
theorem xAO (n : Nd) (k : Nat) : (xAG n k).length = 6 := rfl
section
variable {fs : List Nd} {G : Heap}
theorem yAH (h0 : 0 < fs.length) (hlen : fs.length ≤ 64) : L.icall (.func 82 []) [.sl false fs.length (nds fs)] G = some (.own false (G.length + 1) 0 fs.length 6,G ++ [.dead,.cells false false (nds fs)]) := by
 have h1 := xAf fs
 have h2 := xMa fs
 generalize nds fs = L1 at *
 rw [yFF,a82,xAm]
 simp (maxSteps := 30000000) (disch := first|exact D4|fail) only [WB,Nat.reduceSub,↓reduceIte,AV.cells,xBl,xBP,Nat.zero_mul]
theorem xXH {o : Nat} {lo : List (Nd × Nat)} (go : G[o]? = some (.cells false false (ons xAG lo))) (hl : lo.length = fs.length) (h0 : 0 < fs.length) (hlen : fs.length ≤ 64) : L.icall (.func 82 []) [.own false o 0 fs.length 6] G = some (.own false (G.length + 1) 0 fs.length 6,G ++ [.dead,.cells false false (ons xAG lo)]) := by
 have h1 := xCP xAO lo
 have h2 := xDD xAO lo
 have lk := xAQ go
 rw [hl] at h1 h2
 generalize ons xAG lo = L1 at *
 rw [yFF,a82,xAm]
 simp (maxSteps := 30000000) (disch := first|exact D4|fail) only [WB,Nat.reduceSub,↓reduceIte,AV.cells,xAC,go,h2,xBl,xBP,Nat.zero_mul]
theorem xI1 {lp : List (Nd × AV)} {arg : AV} (hlp : lp.map (·.1) = fs) (hlen : fs.length ≤ 64) (hw : ∀ p ∈ lp,WN p.1 ∧ p.1.args.length ≤ 1000) (hsrc : ∀ p ∈ lp,SrcA G G.length p)
  (h82 : L.icall (.func 82 []) [arg] G = some (.own false (G.length + 1) 0 fs.length 6,G ++ [.dead,.cells false false (vns lp)])) :
  ∃ G',L.icall (.func 50 []) [arg] G = some (.sl false fs.length (nds fs),G') ∧ Kp G.length G G' := by
 have hl : lp.length = fs.length := by rw [← hlp,List.length_map]
 obtain ⟨G1,lp',e1,g1,c1,m1,k1⟩ := yC6 (ob := G.length + 1) (B := G.length) (N := fs.length) hlen (by omega) fs.length 0 (by omega) (G ++ [.dead,.cells false false (vns lp)]) lp hl (by simp) hw
  (by rw [List.getElem?_append_right (by omega),show G.length + 1 - G.length = 1 by omega]; rfl) (fun j p hj => by
   rw [if_neg (by omega)]
   exact (hsrc p (List.mem_of_getElem? hj)).keep fun k hk => xAC hk)
 have e1' : L.loop xKO xU0 ⟨xN0 (.own false (G.length + 1) 0 fs.length 6) (.own false (G.length + 1) 0 fs.length 6) (.int .i64 (fs.length : Nat)) (.int .i64 0),G ++ [.dead,.cells false false (vns lp)]⟩ = _ := e1
 have hw' : ∀ p ∈ lp',WN p.1 := by
  intro p hp
  have : p.1 ∈ lp.map (·.1) := by rw [← m1]; exact List.mem_map.2 ⟨p,hp,rfl⟩
  obtain ⟨q,hq,hqe⟩ := List.mem_map.1 this
  rw [← hqe]; exact (hw q hq).1
 have hl' : lp'.length = fs.length := by
  have := congrArg List.length m1
  simp only [List.length_map] at this
  omega
 have htk := xXG lp'
 have hvl := xMb lp'
 rw [hl'] at htk hvl
 have hfz : frz 6 G1 (.own false (G.length + 1) 0 fs.length 6) = some (.sl false fs.length (nds fs)) := by
  rw [xAU,g1,xBv (by rw [hvl]; omega),List.drop_zero,htk,xVJ c1 hw',m1,hlp]; rfl
 have hbo : ∀ k ∈ bor 6 G1 (.own false (G.length + 1) 0 fs.length 6),G.length ≤ k := by
  intro k hk
  rw [xCN,g1,xDj,List.drop_zero,htk] at hk
  rcases List.mem_cons.1 hk with rfl | hk
  ·omega
  ·exact xVK c1 k hk
 generalize hid : bor 6 G1 (.own false (G.length + 1) 0 fs.length 6) = ids at *
 refine ⟨fzIds G1 ids,?_,((Kp.app _ _).trans k1).trans (xVL ids G1 hbo)⟩
 clear g1 hlp
 generalize vns lp = L0 at *
 generalize nds fs = L1 at *
 rw [yF3,a50,xAm]
 simp (maxSteps := 30000000) (disch := first|exact D4|fail) only [WB,Nat.reduceSub,h82,xQ4,e1',↓reduceIte,hid,hfz]
theorem xXI (h0 : 0 < fs.length) (hlen : fs.length ≤ 64) (hw : ∀ j,j < fs.length → WN (fs.getD j nd0)) (ha : ∀ j,j < fs.length → (fs.getD j nd0).args.length ≤ 1000) :
  ∃ G',L.icall (.func 50 []) [.sl false fs.length (nds fs)] G = some (.sl false fs.length (nds fs),G') ∧ Kp G.length G G' := by
 have hg : ∀ n ∈ fs,WN n ∧ n.args.length ≤ 1000 := by
  intro n hn
  obtain ⟨j,hj⟩ := List.mem_iff_getElem?.1 hn
  have hjl := (List.getElem?_eq_some_iff.1 hj).1
  have e : fs.getD j nd0 = n := by rw [List.getD_eq_getElem?_getD,hj]; rfl
  exact ⟨e ▸ hw j hjl,e ▸ ha j hjl⟩
 refine xI1 (lp := fs.map fun n => (n,xA7 n.z n.args)) (by rw [List.map_map]; exact List.map_id _) hlen (fun p hp => ?_) (fun p hp => ?_) (by rw [yAF]; exact yAH h0 hlen)
 ·obtain ⟨n,hn,rfl⟩ := List.mem_map.1 hp
  exact hg n hn
 ·obtain ⟨n,hn,rfl⟩ := List.mem_map.1 hp
  exact .inl rfl
theorem xVR {o : Nat} {lo : List (Nd × Nat)} (ho : Ow xAG Nd.args G o lo) (hlo : lo.map (·.1) = fs) (h0 : 0 < fs.length) (hlen : fs.length ≤ 64) (hw : ∀ j,j < fs.length → WN (fs.getD j nd0)) (ha : ∀ j,j < fs.length → (fs.getD j nd0).args.length ≤ 1000) :
  ∃ G',L.icall (.func 50 []) [.own false o 0 fs.length 6] G = some (.sl false fs.length (nds fs),G') ∧ Kp G.length G G' := by
 have hl : lo.length = fs.length := by rw [← hlo,List.length_map]
 have hg : ∀ p ∈ lo,WN p.1 ∧ p.1.args.length ≤ 1000 := by
  intro p hp
  have hn : p.1 ∈ fs := by rw [← hlo]; exact List.mem_map.2 ⟨p,hp,rfl⟩
  obtain ⟨j,hj⟩ := List.mem_iff_getElem?.1 hn
  have hjl := (List.getElem?_eq_some_iff.1 hj).1
  have e : fs.getD j nd0 = p.1 := by rw [List.getD_eq_getElem?_getD,hj]; rfl
  exact ⟨e ▸ hw j hjl,e ▸ ha j hjl⟩
 refine xI1 (lp := lo.map fun p => (p.1,xSA p.2 p.1.args)) (by rw [List.map_map]; exact hlo) hlen (fun p hp => ?_) (fun p hp => ?_) (by rw [yAG]; exact xXH ho.go hl h0 hlen)
 ·obtain ⟨q,hq,rfl⟩ := List.mem_map.1 hp
  exact hg q hq
 ·obtain ⟨q,hq,rfl⟩ := List.mem_map.1 hp
  have := (ho.bl q hq).2
  exact .inr ⟨q.2,xAQ this,rfl,this⟩
end
section
variable {fs : List Nd} {m B : Nat}
abbrev F19 (fs : List Nd) (m i : Nat) : List AV := xIw (.ptr m 0) (.sl false fs.length (nds fs)) (.int .i64 (fs.length : Nat)) (.int .i64 (i : Nat))
theorem yC8 (hlen : fs.length ≤ 64) (hV : ∀ j,j < fs.length → Vn j (fs.getD j nd0)) (hB : B ≤ m) : ∀ k i,i + k = fs.length → ∀ (G : Heap) (sb c : Nat),c = nT (fs.take i) → B ≤ sb → m ≠ sb →
  G[m]? = some (.cells false false [.sl false fs.length (nds fs),.own false sb 0 (64 * c + 1) 1]) → G[sb]? = some (.cells false false (bs (List.replicate (64 * c + 1) 0))) → ∃ (G' : Heap) (sb' : Nat),
  L.loop xGZ xPg ⟨F19 fs m i,G⟩ = some (.exit 0,⟨F19 fs m fs.length,G'⟩) ∧ B ≤ sb' ∧ m ≠ sb' ∧ Kp B G G' ∧
   G'[m]? = some (.cells false false [.sl false fs.length (nds fs),.own false sb' 0 (64 * nT fs + 1) 1]) ∧ G'[sb']? = some (.cells false false (bs (List.replicate (64 * nT fs + 1) 0))) := by
 intro k
 induction k with
 | zero =>
  intro i hi G sb c hc h1 h2 gm gb
  obtain rfl : i = fs.length := by omega
  rw [List.take_length] at hc
  subst hc
  refine ⟨G,sb,?_,h1,h2,.refl _ _,gm,gb⟩
  rw [xKr]
  simp (maxSteps := 30000000) (disch := first|exact D4|fail) only [xGY,WB,↓reduceIte,xG0]
 | succ k ih =>
  intro i hi G sb c hc h1 h2 gm gb
  have hlt : i < fs.length := by omega
  have hltI : ((i : Nat) : Int) < (fs.length : Nat) := by omega
  have lm := xAQ gm
  have lb := xAQ gb
  have hs := xVQ hlt
  have hcl : c ≤ 64 := by
   rw [hc]
   have := yC7 (fs.take i)
   rw [List.length_take] at this
   omega
  have h51 := xXQ (hV i hlt).op
  generalize hn : fs.getD i nd0 = n at *
  have hnv : xA7 n.z n.args = .sl n.z n.args.length (xAv n.args) := rfl
  cases ht : tmp n.op with
  | false =>
   rw [ht] at h51 hs
   simp only [Bool.false_eq_true,if_false,Nat.add_zero] at hs
   obtain ⟨G',sb',e1,q1,q2,q3,q4,q5⟩ := ih (i + 1) (by omega) (G ++ [.cells false false n.c]) sb c (hc.trans hs.symm) h1 h2 (by rw [xAC lm]; exact gm) (by rw [xAC lb]; exact gb)
   refine ⟨G',sb',?_,q1,q2,(Kp.appB _ _ (by omega)).trans q3,q4,q5⟩
   unfold Nd.c at e1
   rw [hnv] at e1
   rw [xKr]
   simp (maxSteps := 30000000) (disch := first|exact D4|fail) only [xGY,WB,hltI,↓reduceIte,xAw,Nd.c,hn,hnv,AV.cells,AV.isCell,Nat.reduceAdd,xBl,xBP,h51,xAD,xAn,xG0,e1]
  | true =>
   rw [ht] at h51 hs
   simp only [if_true] at hs
   have hrep : List.replicate (64 * c + 1) 0 ++ List.replicate 64 0 = List.replicate (64 * (c + 1) + 1) 0 := by
    rw [List.replicate_append_replicate]; congr 1
   obtain ⟨G',sb',e1,q1,q2,q3,q4,q5⟩ := ih (i + 1) (by omega) ((G.set sb .dead).set m (.cells false false [.sl false fs.length (nds fs),.own false (G.length + 1) 0 (64 * (c + 1) + 1) 1]) ++ [.cells false false n.c,.cells false false (bs (List.replicate (64 * (c + 1) + 1) 0))]) (G.length + 1) (c + 1) (by rw [hs,hc]) (by omega) (by omega)
    (by rw [xAC (by simpa using lm),xDH (by simpa using lm)])
    (by rw [xI8 (by simp)]; simp)
   refine ⟨G',sb',?_,q1,q2,(((Kp.set h1).trans (Kp.set hB)).trans (Kp.appB _ _ (by simp; omega))).trans q3,q4,q5⟩
   unfold Nd.c at e1
   rw [hnv] at e1
   have hl1 : 64 * c + 1 + 64 = 64 * (c + 1) + 1 := by omega
   have hrz : xCp [AV.int .u8 0] 64 = bs (List.replicate 64 0) := xPt 64
   have hrl : (bs (List.replicate (64 * c + 1) 0)).length = 64 * c + 1 := by rw [xBf]; simp
   have happ : bs (List.replicate (64 * c + 1) 0) ++ bs (List.replicate 64 0) = bs (List.replicate (64 * (c + 1) + 1) 0) := by rw [← hrep]; simp [bs]
   have hms : sb ≠ m := fun q => h2 q.symm
   have htk : List.take (64 * c + 1) (bs (List.replicate (64 * c + 1) 0)) = bs (List.replicate (64 * c + 1) 0) := List.take_of_length_le (by omega)
   generalize bs (List.replicate (64 * (c + 1) + 1) 0) = L2 at *
   generalize bs (List.replicate (64 * c + 1) 0) = L1 at *
   have happz : xSi [.int .u8 0] 1 sb 0 (64 * c + 1) 1 64 (G ++ [.cells false false [.int .u8 (n.op : Nat),.int .i64 n.name,.sl n.z n.args.length (xAv n.args),.int .i64 n.x,.int .i64 n.a,.int .i64 n.b]]) (some (.cells false false L1)) =
     some (.own false (G.length + 1) 0 (64 * (c + 1) + 1) 1,(G ++ [Blk.cells false false [.int .u8 (n.op : Nat),.int .i64 n.name,.sl n.z n.args.length (xAv n.args),.int .i64 n.x,.int .i64 n.a,.int .i64 n.b]]).set sb .dead ++ [.cells false false L2]) := by
    have := xIh (z := [.int .u8 0]) (bytes := 1) (id := sb) (k := 64 * c + 1) (m := 64) (zz := false) (cs := L1) (H := G ++ [.cells false false [.int .u8 (n.op : Nat),.int .i64 n.name,.sl n.z n.args.length (xAv n.args),.int .i64 n.x,.int .i64 n.a,.int .i64 n.b]]) (by show (64 * c + 1) * 1 ≤ _; omega) (by omega) (by omega) (by omega) rfl
    rw [hrz,hl1,List.length_append,show (64 * c + 1) * [AV.int .u8 0].length = 64 * c + 1 from Nat.mul_one _,htk,happ] at this
    exact this
   rw [xKr]
   simp (maxSteps := 30000000) (disch := first|exact D4|fail) only [xGY,WB,hltI,↓reduceIte,xAw,Nd.c,hn,hnv,AV.cells,AV.isCell,Nat.reduceAdd,xBl,xBP,h51,xAD,xAn,xAC,gm,xNt,Int.reduceToNat,gb,happz,xDG,xBG,xG0,e1]
abbrev yFK (fs : List Nd) (o m i : Nat) : List AV := xIw (.ptr m 0) (.own false o 0 fs.length 6) (.int .i64 (fs.length : Nat)) (.int .i64 (i : Nat))
theorem yAI {o : Nat} {lo : List (Nd × Nat)} (hoB : o < B) (hlo : lo.map (·.1) = fs) (hlen : fs.length ≤ 64) (hV : ∀ j,j < fs.length → Vn j (fs.getD j nd0)) (hB : B ≤ m) : ∀ k i,i + k = fs.length → ∀ (G : Heap) (sb c : Nat),G[o]? = some (.cells false false (ons xAG lo)) → c = nT (fs.take i) → B ≤ sb → m ≠ sb →
  G[m]? = some (.cells false false [.sl false fs.length (nds fs),.own false sb 0 (64 * c + 1) 1]) → G[sb]? = some (.cells false false (bs (List.replicate (64 * c + 1) 0))) → ∃ (G' : Heap) (sb' : Nat),
  L.loop xGZ xPg ⟨yFK fs o m i,G⟩ = some (.exit 0,⟨yFK fs o m fs.length,G'⟩) ∧ B ≤ sb' ∧ m ≠ sb' ∧ Kp B G G' ∧
   G'[m]? = some (.cells false false [.sl false fs.length (nds fs),.own false sb' 0 (64 * nT fs + 1) 1]) ∧ G'[sb']? = some (.cells false false (bs (List.replicate (64 * nT fs + 1) 0))) := by
 intro k
 induction k with
 | zero =>
  intro i hi G sb c go hc h1 h2 gm gb
  obtain rfl : i = fs.length := by omega
  rw [List.take_length] at hc
  subst hc
  refine ⟨G,sb,?_,h1,h2,.refl _ _,gm,gb⟩
  rw [xKr]
  simp (maxSteps := 30000000) (disch := first|exact D4|fail) only [xGY,WB,↓reduceIte,xG0]
 | succ k ih =>
  intro i hi G sb c go hc h1 h2 gm gb
  have hlt : i < fs.length := by omega
  have hltI : ((i : Nat) : Int) < (fs.length : Nat) := by omega
  have lm := xAQ gm
  have lb := xAQ gb
  have hs := xVQ hlt
  have hcl : c ≤ 64 := by
   rw [hc]
   have := yC7 (fs.take i)
   rw [List.length_take] at this
   omega
  have h51 := xXQ (hV i hlt).op
  have lo1 := xAQ go
  have hll : lo.length = fs.length := by rw [← hlo,List.length_map]
  have hpi : lo[i]? = some lo[i] := List.getElem?_eq_getElem (by omega)
  have hp1 : lo[i].1 = fs.getD i nd0 := by
   have : fs[i]? = some lo[i].1 := by
    have e := congrArg (fun l : List Nd => l[i]?) hlo
    simp only [List.getElem?_map,hpi] at e
    exact e.symm
   rw [List.getD_eq_getElem?_getD,this]; rfl
  have hat := xY9 xAO hpi
  have hol := xCP xAO lo
  rw [hll] at hol
  rw [hp1] at hat
  generalize lo[i].2 = kk at *
  generalize hn : fs.getD i nd0 = n at *
  have hno : xAG n kk = [.int .u8 (n.op : Nat),.int .i64 n.name,.own (n.args.length == 0) kk 0 n.args.length 1,.int .i64 n.x,.int .i64 n.a,.int .i64 n.b] := rfl
  cases ht : tmp n.op with
  | false =>
   rw [ht] at h51 hs
   simp only [Bool.false_eq_true,if_false,Nat.add_zero] at hs
   obtain ⟨G',sb',e1,q1,q2,q3,q4,q5⟩ := ih (i + 1) (by omega) (G ++ [.cells false false (xAG n kk)]) sb c (by rw [xAC lo1]; exact go) (hc.trans hs.symm) h1 h2 (by rw [xAC lm]; exact gm) (by rw [xAC lb]; exact gb)
   refine ⟨G',sb',?_,q1,q2,(Kp.appB _ _ (by omega)).trans q3,q4,q5⟩
   rw [hno] at e1 hat
   clear hlo hpi
   generalize ons xAG lo = L0 at *
   rw [xKr]
   simp (maxSteps := 30000000) (disch := first|exact D4|fail) only [xGY,WB,hltI,↓reduceIte,go,hat,AV.cells,AV.isCell,Nat.reduceAdd,xBl,xBP,h51,xAD,xAn,xG0,e1]
  | true =>
   rw [ht] at h51 hs
   simp only [if_true] at hs
   have hrep : List.replicate (64 * c + 1) 0 ++ List.replicate 64 0 = List.replicate (64 * (c + 1) + 1) 0 := by
    rw [List.replicate_append_replicate]; congr 1
   obtain ⟨G',sb',e1,q1,q2,q3,q4,q5⟩ := ih (i + 1) (by omega) ((G.set sb .dead).set m (.cells false false [.sl false fs.length (nds fs),.own false (G.length + 1) 0 (64 * (c + 1) + 1) 1]) ++ [.cells false false (xAG n kk),.cells false false (bs (List.replicate (64 * (c + 1) + 1) 0))]) (G.length + 1) (c + 1) (by rw [xAC (by simpa using lo1),xBG (by omega),xBG (by omega)]; exact go) (by rw [hs,hc]) (by omega) (by omega)
    (by rw [xAC (by simpa using lm),xDH (by simpa using lm)])
    (by rw [xI8 (by simp)]; simp)
   refine ⟨G',sb',?_,q1,q2,(((Kp.set h1).trans (Kp.set hB)).trans (Kp.appB _ _ (by simp; omega))).trans q3,q4,q5⟩
   rw [hno] at e1 hat
   clear hlo hpi
   generalize ons xAG lo = L0 at *
   have hl1 : 64 * c + 1 + 64 = 64 * (c + 1) + 1 := by omega
   have hrz : xCp [AV.int .u8 0] 64 = bs (List.replicate 64 0) := xPt 64
   have hrl : (bs (List.replicate (64 * c + 1) 0)).length = 64 * c + 1 := by rw [xBf]; simp
   have happ : bs (List.replicate (64 * c + 1) 0) ++ bs (List.replicate 64 0) = bs (List.replicate (64 * (c + 1) + 1) 0) := by rw [← hrep]; simp [bs]
   have hms : sb ≠ m := fun q => h2 q.symm
   have htk : List.take (64 * c + 1) (bs (List.replicate (64 * c + 1) 0)) = bs (List.replicate (64 * c + 1) 0) := List.take_of_length_le (by omega)
   generalize bs (List.replicate (64 * (c + 1) + 1) 0) = L2 at *
   generalize bs (List.replicate (64 * c + 1) 0) = L1 at *
   have happz : xSi [.int .u8 0] 1 sb 0 (64 * c + 1) 1 64 (G ++ [.cells false false [.int .u8 (n.op : Nat),.int .i64 n.name,.own (n.args.length == 0) kk 0 n.args.length 1,.int .i64 n.x,.int .i64 n.a,.int .i64 n.b]]) (some (.cells false false L1)) =
     some (.own false (G.length + 1) 0 (64 * (c + 1) + 1) 1,(G ++ [Blk.cells false false [.int .u8 (n.op : Nat),.int .i64 n.name,.own (n.args.length == 0) kk 0 n.args.length 1,.int .i64 n.x,.int .i64 n.a,.int .i64 n.b]]).set sb .dead ++ [.cells false false L2]) := by
    have := xIh (z := [.int .u8 0]) (bytes := 1) (id := sb) (k := 64 * c + 1) (m := 64) (zz := false) (cs := L1) (H := G ++ [.cells false false [.int .u8 (n.op : Nat),.int .i64 n.name,.own (n.args.length == 0) kk 0 n.args.length 1,.int .i64 n.x,.int .i64 n.a,.int .i64 n.b]]) (by show (64 * c + 1) * 1 ≤ _; omega) (by omega) (by omega) (by omega) rfl
    rw [hrz,hl1,List.length_append,show (64 * c + 1) * [AV.int .u8 0].length = 64 * c + 1 from Nat.mul_one _,htk,happ] at this
    exact this
   rw [xKr]
   simp (maxSteps := 30000000) (disch := first|exact D4|fail) only [xGY,WB,hltI,↓reduceIte,go,hat,AV.cells,AV.isCell,Nat.reduceAdd,xBl,xBP,h51,xAD,xAn,xAC,gm,xNt,Int.reduceToNat,gb,happz,xDG,xBG,xG0,e1]
theorem xVS (fz : Bool) (fs : List Nd) (hlen : fs.length < 1000) (h : chk fs ≠ 0) (G : Heap) : L.icall (.func 19 []) [.sl fz fs.length (nds fs)] G = some (.tup [.nilp,.int .i64 (chk fs : Nat)],G) := by
 have h34 := xI0 fz fs hlen
 have h' : ¬ ((chk fs : Nat) : Int) = 0 := by omega
 generalize chk fs = e at *
 rw [yDP,a19,xAm]
 simp (maxSteps := 30000000) (disch := first|exact D4|fail) only [WB,Nat.reduceSub,h34,xAD,xAn,↓reduceIte,h']
theorem yAJ (h : chk fs = 0) (hw : ∀ j,j < fs.length → WN (fs.getD j nd0)) (G : Heap) : ∃ (G' : Heap) (m sb : Nat),L.icall (.func 19 []) [.sl false fs.length (nds fs)] G = some (.tup [.ptr m 0,.int .i64 0],G') ∧
  Mo false fs m sb G' (zr (nT fs)) 0 ∧ Kp G.length G G' ∧ G.length ≤ m ∧ G.length ≤ sb := by
 obtain ⟨h0,hlen,hV⟩ := xL9 h
 have h34 := xI0 false fs (by omega)
 rw [h] at h34
 have h34' : L.pcall 34 [.sl false fs.length (nds fs)] = some (.int .i64 0) := h34
 obtain ⟨G0,h50,kp0⟩ := xXI (G := G) h0 hlen hw (fun j hj => Nat.le_trans (hV j hj).al (by omega))
 have hG0 := kp0.1
 obtain ⟨G',sb',e1,q1,q2,q3,q4,q5⟩ := yC8 (B := G.length) hlen hV (m := G0.length + 1) (by omega) fs.length 0 (by omega) (G0 ++ [.cells false false [.int .u8 0],.cells false false [.sl false fs.length (nds fs),.own false G0.length 0 1 1]]) G0.length 0 (by simp [nT]) (by omega) (by omega)
  (by rw [xI8 (by omega)]; simp) (by rw [List.getElem?_append_right (Nat.le_refl _),Nat.sub_self]; rfl)
 refine ⟨G',G0.length + 1,sb',?_,⟨?_,?_,q2,xVP fs,by omega⟩,(kp0.trans (Kp.appB _ _ (by omega))).trans q3,by omega,q1⟩
 ·have e1' : L.loop xGZ xPg ⟨xIw (.ptr (G0.length + 1) 0) (.sl false fs.length (nds fs)) (.int .i64 (fs.length : Nat)) (.int .i64 0),G0 ++ [.cells false false [.int .u8 0],.cells false false [.sl false fs.length (nds fs),.own false G0.length 0 1 1]]⟩ = _ := e1
  rw [yDP,a19,xAm]
  simp (maxSteps := 30000000) (disch := first|exact D4|fail) only [WB,Nat.reduceSub,h34',xAD,xAn,↓reduceIte,h50,AV.cells,AV.isCell,Nat.reduceAdd,Nat.reduceLeDiff,xG0,e1']
 ·rw [q4]; simp [zr]
 ·rw [q5,xVO,show 64 * nT fs + 1 = (64 * nT fs) + 1 from rfl,List.replicate_succ]
theorem yC9 {o : Nat} {lo : List (Nd × Nat)} {G : Heap} (ho : Ow xAG Nd.args G o lo) (hlo : lo.map (·.1) = fs) (hz : ∀ n ∈ fs,n.z = n.args.isEmpty) (h : chk fs = 0) (hw : ∀ j,j < fs.length → WN (fs.getD j nd0)) : ∃ (G' : Heap) (m sb : Nat),L.icall (.func 19 []) [.own false o 0 fs.length 6] G = some (.tup [.ptr m 0,.int .i64 0],G') ∧
  Mo false fs m sb G' (zr (nT fs)) 0 ∧ Kp G.length G G' ∧ G.length ≤ m ∧ G.length ≤ sb := by
 obtain ⟨h0,hlen,hV⟩ := xL9 h
 have h34 := xI0 false fs (by omega)
 rw [h] at h34
 have h34' : L.pcall 34 [.sl false fs.length (nds fs)] = some (.int .i64 0) := h34
 obtain ⟨G0,h50,kp0⟩ := xVR ho hlo h0 hlen hw (fun j hj => Nat.le_trans (hV j hj).al (by omega))
 have hG0 := kp0.1
 obtain ⟨G',sb',e1,q1,q2,q3,q4,q5⟩ := yAI (B := G.length) (lo := lo) (o := o) (xAQ ho.go) hlo hlen hV (m := G0.length + 1) (by omega) fs.length 0 (by omega) (G0 ++ [.cells false false [.int .u8 0],.cells false false [.sl false fs.length (nds fs),.own false G0.length 0 1 1]]) G0.length 0 (by rw [xAC (by have := xAQ ho.go; omega),kp0.2 o (xAQ ho.go)]; exact ho.go) (by simp [nT]) (by omega) (by omega)
  (by rw [xI8 (by omega)]; simp) (by rw [List.getElem?_append_right (Nat.le_refl _),Nat.sub_self]; rfl)
 refine ⟨G',G0.length + 1,sb',?_,⟨?_,?_,q2,xVP fs,by omega⟩,(kp0.trans (Kp.appB _ _ (by omega))).trans q3,by omega,q1⟩
 ·have e1' : L.loop xGZ xPg ⟨xIw (.ptr (G0.length + 1) 0) (.own false o 0 fs.length 6) (.int .i64 (fs.length : Nat)) (.int .i64 0),G0 ++ [.cells false false [.int .u8 0],.cells false false [.sl false fs.length (nds fs),.own false G0.length 0 1 1]]⟩ = _ := e1
  have hll : lo.length = fs.length := by rw [← hlo,List.length_map]
  have hol := xCP xAO lo
  have hot := xDD xAO lo
  rw [hll] at hol hot
  have hfz : frz 6 G (.own false o 0 fs.length 6) = some (.sl false fs.length (nds fs)) := by
   rw [xAU,ho.go,xBv (by rw [hol]; omega),List.drop_zero,hot,ho.frz (e := Nd.c) 4 fun p hp => xFU (hz _ (by rw [← hlo]; exact List.mem_map.2 ⟨p,hp,rfl⟩)) (ho.bl p hp).2,hlo]; rfl
  rw [yDP,a19,xAm]
  simp (maxSteps := 30000000) (disch := first|exact D4|fail) only [WB,Nat.reduceSub,hfz,h34',xAD,xAn,↓reduceIte,h50,AV.cells,AV.isCell,Nat.reduceAdd,Nat.reduceLeDiff,xG0,e1']
 ·rw [q4]; simp [zr]
 ·rw [q5,xVO,show 64 * nT fs + 1 = (64 * nT fs) + 1 from rfl,List.replicate_succ]
end
def evC (e : Ev) : List AV := [.int .i64 e.name,xA7 e.z e.args]
def ev0 : Ev := ⟨0,true,[]⟩
abbrev evs (l : List Ev) : List AV := rows evC l
theorem xCd (l : List Ev) : (evs l).length = l.length * 2 := xCQ (enc := evC) (k := 2) (fun _ => rfl) l
theorem xLd {l : List Ev} {i : Nat} (h : i < l.length) : List.take 2 (List.drop (i * 2) (evs l)) = evC (l.getD i ev0) := by
 rw [xDk (enc := evC) (k := 2) (fun _ => rfl),List.drop_eq_getElem_cons h]
 have : rows evC (l[i] :: l.drop (i + 1)) = evC l[i] ++ rows evC (l.drop (i + 1)) := rfl
 rw [this,List.take_append_of_le_length (by simp [evC]),List.take_of_length_le (by simp [evC]),List.getD_eq_getElem?_getD,List.getElem?_eq_getElem h]
 rfl
def bls (l : List Bool) : List AV := l.map AV.bool
theorem xAE (l : List Bool) : (bls l).length = l.length := by simp [bls]
theorem yAK (a b : List Bool) : bls a ++ bls b = bls (a ++ b) := by simp [bls]
theorem xC6 {l : List Bool} {k : Nat} (h : k < l.length) : List.take 1 (List.drop k (bls l)) = [AV.bool (l.getD k false)] := by
 rw [List.drop_eq_getElem_cons (by simpa [bls] using h),List.take_succ_cons,List.take_zero]
 simp [bls,List.getD_eq_getElem?_getD,List.getElem?_eq_getElem h]
theorem xMc (d : Nat) (H : Heap) : ∀ l : List Bool,(bls l).mapM (frz d H) = some (bls l)
 | [] => rfl
 | b :: l => by
  have := xMc d H l
  show List.mapM _ (AV.bool b :: bls l) = _
  rw [List.mapM_cons,xFz,this]; rfl
theorem xRt (l : List Bool) : List.take l.length (bls l) = bls l := List.take_of_length_le (by rw [xAE]; omega)
def xMd (fs : List Nd) (e : Ev) (ws : List (List Nat)) : Bool := ((xCy e fs [] ws).1.getD (fs.length - 1) fQ) 0
def vL (fs : List Nd) : List Ev → List (List Nat) → List Bool
 | [],_ => []
 | e :: es,ws => xMd fs e ws :: vL fs es (xCy e fs [] ws).2
theorem xVT (fs : List Nd) : ∀ (es : List Ev) (ws : List (List Nat)),(vL fs es ws).length = es.length
 | [],_ => rfl
 | e :: es,ws => by simp [vL,xVT fs es]
def Gr (G : Heap) (v : AV) (l : List Bool) (B m sb : Nat) : Prop := (l = [] ∧ v = .sl true 0 []) ∨ ∃ o,v = .own false o 0 l.length 1 ∧ G[o]? = some (.cells false false (bls l)) ∧ l ≠ [] ∧ B ≤ o ∧ o ≠ m ∧ o ≠ sb
section
variable {fs : List Nd} {l : List Ev} {m sb B : Nat} {z : Bool}
abbrev F35 (m : Nat) (z : Bool) (l : List Ev) (r : Int) (v : AV) (i : Nat) : List AV := xNX (.sl true 0 []) (.int .i64 r) (.ptr m 0) v (.sl z l.length (evs l)) (.int .i64 (l.length : Nat)) (.int .i64 (i : Nat))
theorem D5 {p : Prop} (h : p := by first | assumption | omega | (simp only [WL,AV.isCell,xAc,xAh,xAf,xCd,xAE] <;> omega) | rfl | decide) : p := h
theorem yDa (h0 : 0 < fs.length) (hlen : fs.length ≤ 64) (hV : ∀ j,j < fs.length → Vn j (fs.getD j nd0)) (hl : l.length ≤ 64) : ∀ k i,i + k = l.length → ∀ (G : Heap) (ws : List (List Nat)) (h : Nat) (v : AV) (out : List Bool),out.length = i → Mo false fs m sb G ws h → B ≤ m → B ≤ sb → Gr G v out B m sb → ∃ (G' : Heap) (i' : Nat) (v' : AV),
  L.loop xIC xSp ⟨F35 m z l 0 v i,G⟩ = some (if (l.drop i).all xEn = true then (.exit 1,⟨F35 m z l 0 v' l.length,G'⟩) else (.ret,⟨F35 m z l 1 v' i',G'⟩)) ∧
   ((l.drop i).all xEn = true → Gr G' v' (out ++ vL fs (l.drop i) ws) B m sb) ∧ Kp B G G' := by
 intro k
 induction k with
 | zero =>
  intro i hi G ws h v out ho hm b1 b2 hg
  obtain rfl : i = l.length := by omega
  refine ⟨G,l.length,v,?_,fun _ => ?_,.refl _ _⟩
  ·rw [if_pos (by rw [List.drop_length]; rfl),xQ1]
   simp (maxSteps := 30000000) (disch := first|exact D5|fail) only [xKG,WB,↓reduceIte,xID]
  ·rw [List.drop_length]
   simpa [vL] using hg
 | succ k ih =>
  intro i hi G ws h v out ho hm b1 b2 hg
  have hlt : i < l.length := by omega
  have hltI : ((i : Nat) : Int) < (l.length : Nat) := by omega
  have em : (l.drop i).all xEn = (xEn (l.getD i ev0) && (l.drop (i + 1)).all xEn) := by
   rw [List.drop_eq_getElem_cons hlt,List.getD_eq_getElem?_getD,List.getElem?_eq_getElem hlt]
   rfl
  have ev : vL fs (l.drop i) ws = xMd fs (l.getD i ev0) ws :: vL fs (l.drop (i + 1)) (xCy (l.getD i ev0) fs [] ws).2 := by
   rw [List.drop_eq_getElem_cons hlt,List.getD_eq_getElem?_getD,List.getElem?_eq_getElem hlt]
   rfl
  rw [em,ev]
  have lm := xAQ hm.gm
  have lb := xAQ hm.gb
  generalize hn : l.getD i ev0 = e at *
  have hnv : xA7 e.z e.args = .sl e.z e.args.length (xAv e.args) := rfl
  have hm1 : Mo false fs m sb (G ++ [.cells false false (evC e)]) ws h := ⟨by rw [xAC lm]; exact hm.gm,by rw [xAC lb]; exact hm.gb,hm.ne,hm.rw,hm.h0⟩
  cases hk : xEn e with
  | false =>
   obtain ⟨G1,e1,k1⟩ := xGC hm1 h0 hk
   simp only [Bool.false_and,Bool.false_eq_true,if_false]
   refine ⟨G1,i,v,?_,fun h => (by cases h),(Kp.appB _ _ (by omega)).trans (k1.low (by simp; omega))⟩
   unfold evA at e1
   unfold evC at e1
   rw [hnv] at e1
   rw [xQ1]
   simp (maxSteps := 30000000) (disch := first|exact D5|fail) only [xKG,WB,hltI,↓reduceIte,xLd,evC,hn,hnv,AV.cells,AV.isCell,Nat.reduceAdd,xBl,xBP,e1,Int.reduceEq,xID]
  | true =>
   obtain ⟨G1,e1,m1,k1⟩ := xI7 hm1 h0 (by omega) hV hk
   simp only [Bool.true_and]
   change L.icall (.func 22 []) [.ptr m 0,evA e] _ = some (.tup [.bool (xMd fs e ws),.int .i64 0],G1) at e1
   unfold evA at e1
   unfold evC at e1
   rw [hnv] at e1
   have l1 := k1.1
   simp only [List.length_append,List.length_cons,List.length_nil] at l1
   have kG : Kp B G G1 := (Kp.appB _ _ (by omega)).trans ((k1.low (by simp; omega)).kp b2)
   have lm1 := xAQ m1.gm
   have lb1 := xAQ m1.gb
   generalize (xCy e fs [] ws).2 = ws2 at *
   generalize xMd fs e ws = b at *
   rcases hg with ⟨rfl,rfl⟩ | ⟨o,rfl,go,hne,bo,om,os⟩
   ·have m2 : Mo false fs m sb (G1 ++ [.cells false false (bls [b])]) ws2 1 := ⟨by rw [xAC lm1]; exact m1.gm,by rw [xAC lb1]; exact m1.gb,m1.ne,m1.rw,m1.h0⟩
    obtain ⟨G',i',v',e2,g2,k2⟩ := ih (i + 1) (by omega) (G1 ++ [.cells false false (bls [b])]) ws2 1 (.own false G1.length 0 1 1) [b] (by simp at ho ⊢; omega) m2 b1 b2
     (.inr ⟨G1.length,rfl,by rw [List.getElem?_append_right (Nat.le_refl _),Nat.sub_self]; rfl,by simp,by omega,by omega,by omega⟩)
    refine ⟨G',i',v',?_,fun h => ?_,kG.trans ((Kp.appB _ _ (by omega)).trans k2)⟩
    ·have e2' : L.loop xIC xSp ⟨F35 m z l 0 (.own false G1.length 0 1 1) (i + 1),G1 ++ [.cells false false [.bool b]]⟩ = _ := e2
     rw [xQ1]
     simp (maxSteps := 30000000) (disch := first|exact D5|fail) only [xKG,WB,hltI,↓reduceIte,xLd,evC,hn,hnv,AV.cells,AV.isCell,Nat.reduceAdd,xBl,xBP,e1,Nat.reduceBEq,xID,e2']
    ·have := g2 h
     simpa using this
   ·have lo := xAQ go
    have go1 : G1[o]? = some (.cells false false (bls out)) := by rw [k1.2 o (by simp; omega) os,xAC lo]; exact go
    have lo1 := xAQ go1
    have m2 : Mo false fs m sb (G1.set o .dead ++ [.cells false false (bls (out ++ [b]))]) ws2 1 := ⟨by rw [xAC (by simpa using lm1),xBG (by omega)]; exact m1.gm,by rw [xAC (by simpa using lb1),xBG (by omega)]; exact m1.gb,m1.ne,m1.rw,m1.h0⟩
    obtain ⟨G',i',v',e2,g2,k2⟩ := ih (i + 1) (by omega) (G1.set o .dead ++ [.cells false false (bls (out ++ [b]))]) ws2 1 (.own false G1.length 0 (out.length + 1) 1) (out ++ [b]) (by simp; omega) m2 b1 b2
     (.inr ⟨G1.length,by simp,by rw [List.getElem?_append_right (by simp),List.length_set,Nat.sub_self]; rfl,by simp,by omega,by omega,by omega⟩)
    refine ⟨G',i',v',?_,fun h => ?_,kG.trans (((Kp.set bo).trans (Kp.appB _ _ (by simp; omega))).trans k2)⟩
    ·have hba : bls out ++ [.bool b] = bls (out ++ [b]) := yAK out [b]
     have hbt := xRt out
     have hbl := xAE out
     generalize bls (out ++ [b]) = L2 at *
     generalize bls out = L1 at *
     rw [xQ1]
     simp (maxSteps := 30000000) (disch := first|exact D5|fail) only [xKG,WB,hltI,↓reduceIte,xLd,evC,hn,hnv,AV.cells,AV.isCell,Nat.reduceAdd,xBl,xBP,e1,go1,Nat.reduceBEq,hbt,hba,xID,e2]
    ·have := g2 h
     simpa using this
theorem yDb (hc : chk fs = 0) (hw : ∀ j,j < fs.length → WN (fs.getD j nd0)) (z : Bool) (l : List Ev) (hl : l.length ≤ 64) : L.pcall 35 [.sl false fs.length (nds fs),.sl z l.length (evs l)] =
  some (if l.all xEn = true then .tup [.sl l.isEmpty l.length (bls (vL fs l (zr (nT fs)))),.int .i64 0] else .tup [.sl true 0 [],.int .i64 1]) := by
 obtain ⟨h0,hlen,hV⟩ := xL9 hc
 obtain ⟨G1,m,sb,h19,hm,-,-,-⟩ := yAJ hc hw []
 have hl' : ¬ (64 : Int) < (l.length : Nat) := by omega
 obtain ⟨G',i',v',e1,g1,-⟩ := yDa (B := 0) (z := z) (l := l) h0 hlen hV hl l.length 0 (by omega) G1 _ 0 (.sl true 0 []) [] rfl hm (by omega) (by omega) (.inl ⟨rfl,rfl⟩)
 rw [List.drop_zero] at e1 g1
 have e1' : L.loop xIC xSp ⟨xNX (.sl true 0 []) (.int .i64 0) (.ptr m 0) (.sl true 0 []) (.sl z l.length (evs l)) (.int .i64 (l.length : Nat)) (.int .i64 0),G1⟩ = _ := e1
 cases ha : l.all xEn with
 | false =>
  rw [ha] at e1'
  simp only [Bool.false_eq_true,if_false] at e1' ⊢
  rw [yEC,a35,xAb]
  simp (disch := omega) only [WB,Nat.reduceAdd,Nat.reduceSub,h19,↓reduceIte,hl',xID,e1']
 | true =>
  have g2 := g1 ha
  rw [ha] at e1'
  simp only [if_true,List.nil_append] at e1' g2 ⊢
  have hvl := xVT fs l (zr (nT fs))
  generalize vL fs l (zr (nT fs)) = V at *
  rcases g2 with ⟨rfl,rfl⟩ | ⟨o,rfl,go,hne,-,-,-⟩
  ·have hl0 : l = [] := List.eq_nil_of_length_eq_zero (by simpa using hvl.symm)
   have hr : AV.sl l.isEmpty l.length (bls []) = .sl true 0 [] := by subst hl0; rfl
   rw [hr]
   clear hvl
   rw [yEC,a35,xAb]
   simp (disch := omega) only [WB,Nat.reduceAdd,Nat.reduceSub,h19,↓reduceIte,hl',xID,e1']
  ·have hbl := xAE V
   have hbt := xRt V
   have hfr := fun d H => xMc d H V
   rw [hvl] at hbt hbl e1'
   have hem : l.isEmpty = false := by
    cases l with
    | nil => simp at hvl; exact absurd hvl hne
    | cons _ _ => rfl
   rw [hem]
   generalize bls V = L1 at *
   rw [yEC,a35,xAb]
   simp (disch := omega) only [WB,Nat.reduceAdd,Nat.reduceSub,h19,↓reduceIte,hl',xID,e1',xAU,go,hbt,hfr]
end
theorem WZ : type_of% (I (I (I @WL @xAc) (I @xAh @xAf)) (I @xCd @xAE)) := I (I (I @WL @xAc) (I @xAh @xAf)) (I @xCd @xAE)
set_option linter.unusedSimpArgs false
set_option linter.unusedVariables false
def xED (l : List Int) : List Int := l.take 4
def xJq (n : Nd) : Nd := { n with z := (xED n.args).isEmpty,args := xED n.args }
def xI2 (fs : List Nd) : List Nd := (fs.take 70).map xJq
def Gn (G : Heap) (v : AV) (l : List Nd) : Prop := (l = [] ∧ v = .sl true 0 []) ∨ ∃ o,v = .own false o 0 l.length 6 ∧ G[o]? = some (.cells false false (nds l)) ∧ l ≠ []
theorem yAL (a b : List Nd) : nds a ++ nds b = nds (a ++ b) := by simp [rows]
theorem D6 {p : Prop} (h : p := by first | assumption | omega | (simp only [WZ,AV.isCell] <;> omega) | rfl | decide) : p := h
theorem xVU (z : Bool) {l : List Int} (hl : l.length ≤ 1000) : xDe L 49 [.sl z l.length (xAv l)] = some (.own (l.length == 0) 0 0 l.length 1,[.cells false (l.length == 0) (xAv l)]) := by
 have htk : List.take l.length l = l := List.take_length
 rw [xUC,yF2,a49,xAm]
 simp (maxSteps := 30000000) (disch := first|exact D6|fail) only [WB,Nat.reduceSub,WP,↓reduceIte]
def GnO (G : Heap) (v : AV) (lo : List (Nd × Nat)) : Prop := (lo = [] ∧ v = .sl true 0 []) ∨ ∃ o,v = .own false o 0 lo.length 6 ∧ Ow xAG Nd.args G o lo
section
variable {fs : List Nd} {z : Bool}
abbrev F18 (z : Bool) (fs : List Nd) (v : AV) (i : Nat) : List AV := xKq (.sl z fs.length (nds fs)) v (.int .i64 (i : Nat))
theorem xZa : ∀ k i,i + k = min fs.length 70 → ∀ (G : Heap) (v : AV) (lo : List (Nd × Nat)),lo.length = i → GnO G v lo → ∃ (G' : Heap) (v' : AV) (lo' : List (Nd × Nat)),
  L.loop xIv xSn ⟨F18 z fs v i,G⟩ = some (.exit 0,⟨F18 z fs v' (min fs.length 70),G'⟩) ∧ GnO G' v' lo' ∧ lo'.map (·.1) = lo.map (·.1) ++ ((fs.drop i).take k).map xJq := by
 intro k
 induction k with
 | zero =>
  intro i hi G v lo ho hg
  obtain rfl : i = min fs.length 70 := by omega
  refine ⟨G,v,lo,?_,hg,by simp⟩
  by_cases c : fs.length < 70
  ·have c1 : min fs.length 70 = fs.length := by omega
   rw [c1,xNL]
   simp (maxSteps := 30000000) (disch := first|exact D6|fail) only [xIu,WB,↓reduceIte,xFF]
  ·have c1 : min fs.length 70 = 70 := by omega
   rw [c1]
   by_cases c2 : fs.length = 70
   ·have c3 : ¬ ((70 : Int) < (fs.length : Nat)) := by omega
    rw [xNL]
    simp (maxSteps := 30000000) (disch := first|exact D6|fail) only [xIu,WB,c3,↓reduceIte,xFF]
    rfl
   ·have c3 : ((70 : Int) < (fs.length : Nat)) := by omega
    rw [xNL]
    simp (maxSteps := 30000000) (disch := first|exact D6|fail) only [xIu,WB,c3,↓reduceIte,xFF]
    rfl
 | succ k ih =>
  intro i hi G v lo ho hg
  have hlt : i < fs.length := by omega
  have hltI : ((i : Nat) : Int) < (fs.length : Nat) := by omega
  have hlt70 : ((i : Nat) : Int) < 70 := by omega
  have em : ((fs.drop i).take (k + 1)).map xJq = xJq (fs.getD i nd0) :: ((fs.drop (i + 1)).take k).map xJq := by
   rw [List.drop_eq_getElem_cons hlt,List.getD_eq_getElem?_getD,List.getElem?_eq_getElem hlt]
   rfl
  rw [em]
  generalize hn : fs.getD i nd0 = n at *
  have hnv : xA7 n.z n.args = .sl n.z n.args.length (xAv n.args) := rfl
  have h49 := xVU n.z (l := xED n.args) (by simp [xED]; omega)
  have hcl : (xED n.args).length = min n.args.length 4 := by simp [xED,Nat.min_comm]
  have hmin : min ((n.args.length : Nat) : Int) 4 = ((xED n.args).length : Nat) := by rw [hcl]; omega
  have hbd : xBn n.args.length none (some (.int .i64 ((xED n.args).length : Nat))) none = some (0,(xED n.args).length) := by
   rw [xFy (Int.natCast_nonneg _) (by rw [hcl]; omega)]
   simp
  have htk : xAv (List.take (xED n.args).length n.args) = xAv (xED n.args) := by
   congr 1
   rw [hcl]
   unfold xED
   by_cases c : n.args.length ≤ 4
   ·rw [Nat.min_eq_left c,List.take_of_length_le (Nat.le_refl _),List.take_of_length_le c]
   ·rw [Nat.min_eq_right (by omega)]
  have hC : ∀ k,xAG (xJq n) k = [.int .u8 (n.op : Nat),.int .i64 n.name,.own ((xED n.args).length == 0) k 0 (xED n.args).length 1,.int .i64 n.x,.int .i64 n.a,.int .i64 n.b] := fun _ => rfl
  have hBk : xOr (xJq n).args = .cells false ((xED n.args).length == 0) (xAv (xED n.args)) := rfl
  rcases hg with ⟨rfl,rfl⟩ | ⟨o,rfl,hw⟩
  ·obtain ⟨G',v',lo',e1,g1,m1⟩ := ih (i + 1) (by omega) (G ++ [.cells false false (xAG (xJq n) (G.length + 1)),xOr (xJq n).args,.cells false false (xAG (xJq n) (G.length + 1)),.cells false false (xAG (xJq n) (G.length + 1))]) (.own false (G.length + 3) 0 1 6) [(xJq n,G.length + 1)] (by simp at ho ⊢; omega)
    (.inr ⟨G.length + 3,rfl,Ow.one _ _ _⟩)
   refine ⟨G',v',lo',?_,g1,by simpa using m1⟩
   rw [hC,hBk] at e1
   generalize xED n.args = l4 at *
   rw [xNL]
   simp (maxSteps := 30000000) (disch := first|exact D6|fail) only [xIu,WB,hltI,↓reduceIte,hlt70,xAw,Nd.c,hn,hnv,AV.cells,AV.isCell,Nat.reduceAdd,xBl,xBP,hmin,hbd,W2,htk,WP,h49,xB6,xEY,xCL,Nat.reduceMul,xI8,Nat.reduceBEq,xFF,e1]
  ·have lob := xAQ hw.go
   obtain ⟨G',v',lo',e1,g1,m1⟩ := ih (i + 1) (by omega) (G.set o .dead ++ [.cells false false (xAG (xJq n) (G.length + 1)),xOr (xJq n).args,.cells false false (xAG (xJq n) (G.length + 1)),.cells false false (ons xAG (lo ++ [(xJq n,G.length + 1)]))]) (.own false (G.length + 3) 0 (lo.length + 1) 6) (lo ++ [(xJq n,G.length + 1)]) (by simp; omega)
    (.inr ⟨G.length + 3,by simp,hw.snoc _ _ _⟩)
   refine ⟨G',v',lo',?_,g1,by simpa using m1⟩
   have hN : ons xAG lo ++ xAG (xJq n) (G.length + 1) = ons xAG (lo ++ [(xJq n,G.length + 1)]) := xVH _ _ _
   rw [hC,hBk] at e1
   rw [hC] at hN
   have hnl := xCP xAO lo
   have hnt := xDD xAO lo
   have go := hw.go
   clear hw
   generalize ons xAG (lo ++ [(xJq n,G.length + 1)]) = L2 at *
   generalize ons xAG lo = L1 at *
   generalize xED n.args = l4 at *
   have hi70 : i ≤ 70 := by omega
   rw [ho] at *
   rw [xNL]
   simp (maxSteps := 30000000) (disch := first|exact D6|fail) only [xIu,WB,hltI,↓reduceIte,hlt70,xAw,Nd.c,hn,hnv,AV.cells,AV.isCell,Nat.reduceAdd,xBl,xBP,hmin,hbd,W2,htk,WP,h49,xB6,xEY,xCL,Nat.reduceMul,xI8,xAC,go,Nat.reduceBEq,xDG,hnt,hN,xFF,e1]
theorem xVV : ((fs.drop 0).take (min fs.length 70)).map xJq = xI2 fs := by
 unfold xI2
 rw [List.drop_zero]
 congr 1
 by_cases c : fs.length ≤ 70
 ·rw [Nat.min_eq_left c,List.take_of_length_le (Nat.le_refl _),List.take_of_length_le c]
 ·rw [Nat.min_eq_right (by omega)]
theorem yDc (z : Bool) (fs : List Nd) : ∃ (G' : Heap) (v' : AV) (lo' : List (Nd × Nat)),xDf L 18 [.sl z fs.length (nds fs)] = some (v',G') ∧ GnO G' v' lo' ∧ lo'.map (·.1) = xI2 fs := by
 obtain ⟨G',v',lo',e1,g1,m1⟩ := xZa (z := z) (fs := fs) (min fs.length 70) 0 (by omega) [] (.sl true 0 []) [] rfl (.inl ⟨rfl,rfl⟩)
 have m1 : lo'.map (·.1) = xI2 fs := by rw [m1,xVV]; rfl
 have e1' : L.loop xIv xSn ⟨xKq (.sl z fs.length (nds fs)) (.sl true 0 []) (.int .i64 0),[]⟩ = _ := e1
 refine ⟨G',v',lo',xUE ?_ ?_,g1,m1⟩
 ·rcases g1 with ⟨rfl,rfl⟩ | ⟨o,rfl,hw⟩
  ·rw [yFB,a18,xAm]
   simp (maxSteps := 30000000) (disch := first|exact D6|fail) only [WB,Nat.reduceSub,xFF,e1',↓reduceIte]
  ·rw [yFB,a18,xAm]
   simp (maxSteps := 30000000) (disch := first|exact D6|fail) only [WB,Nat.reduceSub,xFF,e1',↓reduceIte]
 ·rcases g1 with ⟨rfl,rfl⟩ | ⟨o,rfl,hw⟩ <;> rfl
theorem GnO.wn {G : Heap} {o : Nat} {lo : List (Nd × Nat)} {fs : List Nd} (hw : Ow xAG Nd.args G o lo) (hz : ∀ n ∈ fs,n.z = n.args.isEmpty) (m1 : lo.map (·.1) = fs) (d : Nat) : (ons xAG lo).mapM (frz (d + 1) G) = some (nds fs) := by
 rw [hw.frz (e := Nd.c) d fun p hp => xFU (hz _ (by rw [← m1]; exact List.mem_map.2 ⟨p,hp,rfl⟩)) (hw.bl p hp).2,m1]
theorem xVW (fs : List Nd) : ∀ n ∈ xI2 fs,n.z = n.args.isEmpty := by
 intro n hn
 unfold xI2 at hn
 obtain ⟨m,-,rfl⟩ := List.mem_map.1 hn
 rfl
theorem yE5 (z : Bool) (fs : List Nd) : L.pcall 18 [.sl z fs.length (nds fs)] = some (.sl (xI2 fs).isEmpty (xI2 fs).length (nds (xI2 fs))) := by
 obtain ⟨G',v',lo',e1,g1,m1⟩ := xZa (z := z) (fs := fs) (min fs.length 70) 0 (by omega) [] (.sl true 0 []) [] rfl (.inl ⟨rfl,rfl⟩)
 have m1 : lo'.map (·.1) = xI2 fs := by rw [m1,xVV]; rfl
 have e1' : L.loop xIv xSn ⟨xKq (.sl z fs.length (nds fs)) (.sl true 0 []) (.int .i64 0),[]⟩ = _ := e1
 have hz := xVW fs
 have hml : lo'.length = (xI2 fs).length := by rw [← m1,List.length_map]
 generalize xI2 fs = V at *
 rcases g1 with ⟨rfl,rfl⟩ | ⟨o,rfl,hw⟩
 ·have m1 : [] = V := m1
  subst m1
  show _ = some (AV.sl true 0 [])
  rw [yFA,a18,xAb]
  simp (maxSteps := 30000000) (disch := first|exact D6|fail) only [WB,Nat.reduceSub,xFF,e1',↓reduceIte]
 ·have hem : V.isEmpty = false := by
   cases V with
   | nil => exact absurd (List.map_eq_nil_iff.1 m1) hw.ne
   | cons _ _ => rfl
  have hfr := GnO.wn hw hz m1
  have hnl := xCP xAO lo'
  have hnt := xDD xAO lo'
  have go := hw.go
  clear hw
  rw [hem]
  rw [hml] at *
  generalize nds V = L2 at *
  generalize ons xAG lo' = L1 at *
  have hf5 : L1.mapM (frz 5 G') = some L2 := hfr 4
  rw [yFA,a18,xAb]
  simp (maxSteps := 30000000) (disch := first|exact D6|fail) only [WB,Nat.reduceSub,xFF,e1',↓reduceIte,xAU,go,hnt,hf5]
end
def yDd (n : Nat) (l : List Ev) : List Ev := (l.filter xEn).take n
theorem xPD (a b : List Ev) : evs a ++ evs b = evs (a ++ b) := by simp [rows]
theorem xDE (l : List Ev) : List.take (l.length * 2) (evs l) = evs l := List.take_of_length_le (by rw [xCd]; omega)
theorem xI3 (d : Nat) (H : Heap) : ∀ l : List Ev,(evs l).mapM (frz d H) = some (evs l)
 | [] => rfl
 | e :: l => by
  have h1 : (evC e).mapM (frz d H) = some (evC e) := by
   unfold evC xA7
   simp [List.mapM_cons,xCM,xEi]
  exact mapM_append' h1 (xI3 d H l)
theorem xI4 (d : Nat) (H : Heap) : ∀ l : List Ev,(evs l).flatMap (bor d H) = []
 | [] => rfl
 | e :: l => by
  show (evC e ++ evs l).flatMap (bor d H) = []
  rw [List.flatMap_append,xI4 d H l]
  simp [evC,xA7,xGe,xNv]
section
variable {l : List Ev} {z : Bool} {f : AV} {n : Nat}
theorem xP2 (n : Nat) (l : List Ev) : (yDd n l).length ≤ n := by simp [yDd]; omega
end
end Go.Abs.Events
