/- open. -/
import Derived.Test.YtdheandekcpieaaDoorAbsBun
import Derived.Test.YtdheandekcpieaaDoorAMC
namespace Go.Abs.Events
open Go Go.Abs
set_option linter.unusedSimpArgs false
set_option linter.unusedVariables false
theorem yDn {w : Nat} (hw : w < 18446744073709551616) (k : Nat) : xDj .and .u64 (((w : Nat) : Int).fdiv (2 ^ k)) 1 = ((w.testBit k).toNat : Nat) := by
 have e1 : ((w : Nat) : Int).fdiv (2 ^ k) = ((w / 2 ^ k : Nat) : Int) := by
  have : ((2 : Int) ^ k) = ((2 ^ k : Nat) : Int) := by simp
  rw [this,Int.fdiv_eq_ediv_of_nonneg _ (Int.natCast_nonneg _)]
  exact (Int.natCast_ediv _ _).symm
 have h2 : w / 2 ^ k < 18446744073709551616 := Nat.lt_of_le_of_lt (Nat.div_le_self _ _) hw
 rw [e1,show (1 : Int) = ((1 : Nat) : Int) from rfl,xYr h2 (by decide)]
 congr 1
 rw [Nat.testBit,Nat.shiftRight_eq_div_pow]
 have hb : 1 &&& (w / 2 ^ k) = (w / 2 ^ k) % 2 := by rw [Nat.and_comm,Nat.and_one_is_mod]
 rw [hb,Nat.and_one_is_mod]
 rcases Nat.mod_two_eq_zero_or_one (w / 2 ^ k) with e | e <;> rw [e] <;> rfl
def xMo (bd : Nat) (l : List Int) : Bool := l.any fun t => decide (8 ≤ t) && !(bd.testBit (t.toNat - 8))
def bnd (n : Nd) (bd : Nat) : Nat := if n.op = 7 then bd ||| 2 ^ (n.x.toNat - 8) else bd
def opn (fs : List Nd) : Nat → Nat → Nat → Bool
 | 0,_,_ => false
 | k + 1,i,bd => xMo bd (fs.getD i nd0).args || ((decide (0 < chn (fs.getD i nd0).op) && opn fs k (fs.getD i nd0).a.toNat (bnd (fs.getD i nd0) bd)) || (decide (1 < chn (fs.getD i nd0).op) && opn fs k (fs.getD i nd0).b.toNat (bnd (fs.getD i nd0) bd)))
section
variable {fz z : Bool} {fs : List Nd} {l : List Int} {bd p : Nat} {G : Heap} {s0 : AV}
set_option maxHeartbeats 2000000 in
theorem xZY (hbd : bd < 8) (hl : l.length ≤ 100) (har : ∀ t ∈ l,0 ≤ t ∧ t ≤ 10) : ∀ k i,i + k = l.length → ∃ i' : Nat,
  L.loop xJh xSJ ⟨xHD s0 (.int .u64 (bd : Nat)) (.bool false) (.ptr p 0) (.sl z l.length (xAJ l)) (.int .i64 (l.length : Nat)) (.int .i64 (i : Nat)),G⟩ =
   some (if xMo bd (l.drop i) = true then (.ret,⟨xHD s0 (.int .u64 (bd : Nat)) (.bool true) (.ptr p 0) (.sl z l.length (xAJ l)) (.int .i64 (l.length : Nat)) (.int .i64 (i' : Nat)),G⟩)
    else (.exit 0,⟨xHD s0 (.int .u64 (bd : Nat)) (.bool false) (.ptr p 0) (.sl z l.length (xAJ l)) (.int .i64 (l.length : Nat)) (.int .i64 (i' : Nat)),G⟩)) := by
 intro k
 induction k with
 | zero =>
  intro i hi
  obtain rfl : i = l.length := by omega
  refine ⟨l.length,?_⟩
  rw [if_neg (by rw [List.drop_length]; simp [xMo]),xOV]
  simp (maxSteps := 30000000) (disch := first | assumption | omega | (simp only [WL,AV.isCell,xAd,xAf,xAe] <;> omega) | rfl | decide) only [xJg,WB,↓reduceIte,xDh]
 | succ k ih =>
  intro i hi'
  have hlt : (i : Int) < (l.length : Nat) := by omega
  have hl1 : i < l.length := by omega
  obtain ⟨i',ih'⟩ := ih (i + 1) (by omega)
  have em : xMo bd (l.drop i) = ((decide (8 ≤ l.getD i 0) && !(bd.testBit ((l.getD i 0).toNat - 8))) || xMo bd (l.drop (i + 1))) := by
   rw [List.drop_eq_getElem_cons hl1,List.getD_eq_getElem?_getD,List.getElem?_eq_getElem hl1]
   rfl
  have hm : l.getD i 0 ∈ l := by rw [List.getD_eq_getElem?_getD,List.getElem?_eq_getElem hl1]; exact List.getElem_mem hl1
  have hr := har _ hm
  rw [em]
  generalize hN : l.getD i 0 = t at *
  by_cases c1 : 8 ≤ t
  ·have hs : min (t - 8).toNat IntKind.u64.bits = t.toNat - 8 := by
    rw [Nat.min_eq_left (by show _ ≤ 64; omega)]; omega
   have hb := yDn (w := bd) (by omega) (t.toNat - 8)
   have hs0 : (0 : Int) ≤ t - 8 := by omega
   cases hbit : bd.testBit (t.toNat - 8) with
   | true =>
    rw [hbit] at hb
    simp only [c1,decide_true,Bool.true_and,Bool.not_true,Bool.false_or]
    refine ⟨i',?_⟩
    rw [xOV]
    simp (maxSteps := 30000000) (disch := first | assumption | omega | (simp only [WL,AV.isCell,xAd,xAf,xAe] <;> omega) | rfl | decide) only [xJg,WB,hlt,↓reduceIte,W2,hN,c1,hs,hb,Bool.toNat_true,Int.reduceEq,xDh,ih']
   | false =>
    rw [hbit] at hb
    simp only [c1,decide_true,Bool.true_and,Bool.not_false,Bool.true_or,if_true]
    refine ⟨i,?_⟩
    rw [xOV]
    simp (maxSteps := 30000000) (disch := first | assumption | omega | (simp only [WL,AV.isCell,xAd,xAf,xAe] <;> omega) | rfl | decide) only [xJg,WB,hlt,↓reduceIte,W2,hN,c1,hs,hb,Bool.toNat_false,xDh]
  ·simp only [c1,decide_false,Bool.false_and,Bool.false_or]
   refine ⟨i',?_⟩
   rw [xOV]
   simp (maxSteps := 30000000) (disch := first | assumption | omega | (simp only [WL,AV.isCell,xAd,xAf,xAe] <;> omega) | rfl | decide) only [xJg,WB,hlt,↓reduceIte,W2,hN,c1,xDh,ih']
theorem xZZ {a b : Nat} (ha : a < 8) (hb : b < 8) : a ||| b < 8 := Nat.or_lt_two_pow (n := 3) ha hb
theorem pw8 {x : Int} (h : x = 8 ∨ x = 9 ∨ x = 10) : 2 ^ (x.toNat - 8) < 8 := by rcases h with rfl | rfl | rfl <;> decide
theorem xZ0 {n : Nd} {i : Nat} (hv : Vn i n) (h : bd < 8) : bnd n bd < 8 := by
 unfold bnd
 split
 ·rename_i c
  exact xZZ h (pw8 (hv.ex c))
 ·exact h
set_option maxHeartbeats 4000000 in
theorem xZ1 (hlen : fs.length ≤ 64) (hV : ∀ j,j < fs.length → Vn j (fs.getD j nd0)) : ∀ (k i bd : Nat),i < k → i < fs.length → bd < 8 →
  L.pcall 42 [.sl fz fs.length (nds fs),.int .i64 (i : Nat),.int .u64 (bd : Nat)] = some (.bool (opn fs k i bd)) := by
 intro k
 induction k with
 | zero => intro i bd h; omega
 | succ k ih =>
  intro i bd hik hi hbd
  have hv := hV i hi
  rw [opn]
  generalize hn : fs.getD i nd0 = n at *
  obtain ⟨i',e1⟩ := xZY (s0 := .sl fz fs.length (nds fs)) (z := n.z) (p := 0) (G := [.cells false false n.c]) hbd hv.al hv.ar n.args.length 0 (by omega)
  rw [List.drop_zero] at e1
  have h68 := xNz n.op
  have hch : List.take 1 (List.drop 1 (foC n.op)) = [.int .i64 (chn n.op : Nat)] := rfl
  have hfl : (foC n.op).length = 6 := rfl
  generalize foC n.op = C at *
  have hnv : xBL n.z n.args = .sl n.z n.args.length (xAJ n.args) := rfl
  unfold Nd.c at e1
  rw [hnv] at e1
  have e1' : L.loop xJh xSJ ⟨xHD (.sl fz fs.length (nds fs)) (.int .u64 (bd : Nat)) (.bool false) (.ptr 0 0) (.sl n.z n.args.length (xAJ n.args)) (.int .i64 (n.args.length : Nat)) (.int .i64 0),[.cells false false [.int .u8 (n.op : Nat),.int .i64 n.name,.sl n.z n.args.length (xAJ n.args),.int .i64 n.x,.int .i64 n.a,.int .i64 n.b]]⟩ = _ := e1
  cases hA : xMo bd n.args with
  | true =>
   rw [hA] at e1'
   simp only [if_true,Bool.true_or] at e1' ⊢
   rw [xV7,a42,xAb]
   simp (maxSteps := 30000000) (disch := first | assumption | omega | (simp only [WL,AV.isCell,xAd,xAf,xAe] <;> omega) | rfl | decide) only [WB,Nat.reduceAdd,Nat.reduceSub,xBe,Nd.c,hn,hnv,AV.cells,AV.isCell,↓reduceIte,xDh,e1']
  | false =>
   rw [hA] at e1'
   simp only [Bool.false_eq_true,if_false,Bool.false_or] at e1' ⊢
   have hbl := xZ0 hv hbd
   have hrec : ∀ j : Nat,j < i → L.pcall 42 [.sl fz fs.length (nds fs),.int .i64 (j : Nat),.int .u64 (bnd n bd : Nat)] = some (.bool (opn fs k j (bnd n bd))) := fun j hj => ih j _ (by omega) (by omega) hbl
   have hca := hv.ca
   have hcb := hv.cb
   have hc2 := xMr n.op
   by_cases c7 : n.op = 7
   ·have c7' : (((n.op : Nat) : Int) = 7) = True := eq_true (by omega)
    have hx := hv.ex c7
    have hc1 : chn n.op = 1 := by rw [c7]; rfl
    have ha := xBd (hca (by omega))
    have hra := hrec _ ha.2
    rw [← ha.1] at hra
    have hs0 : (0 : Int) ≤ n.x - 8 := by omega
    have hbe : bnd n bd = bd ||| 2 ^ (n.x.toNat - 8) := by unfold bnd; rw [if_pos c7]
    have hsh : IntKind.u64.wrap (1 * 2 ^ min (n.x - 8).toNat IntKind.u64.bits) = ((2 ^ (n.x.toNat - 8) : Nat) : Int) := by
     rw [yAp (by omega),show (n.x - 8).toNat = n.x.toNat - 8 by omega]
    have hor : xDj .or .u64 (bd : Nat) ((2 ^ (n.x.toNat - 8) : Nat) : Int) = ((bnd n bd : Nat) : Int) := by
     rw [hbe,yAT (by omega) (Nat.lt_of_lt_of_le (pw8 hx) (by omega))]
    have hch' : (chn n.op : Nat) = 1 := hc1
    rw [hch'] at hch ⊢
    generalize bnd n bd = bd2 at *
    generalize opn fs k n.a.toNat bd2 = r at *
    cases r with
    | true =>
     rw [xV7,a42,xAb]
     simp (maxSteps := 30000000) (disch := first | assumption | omega | (simp only [WL,AV.isCell,xAd,xAf,xAe] <;> omega) | rfl | decide) only [WB,Nat.reduceAdd,Nat.reduceSub,xBe,Nd.c,hn,hnv,AV.cells,AV.isCell,↓reduceIte,xDh,e1',c7',hsh,hor,h68,xAQ,hch,Int.reduceLT,hra,xAv,Nat.reduceLT]
    | false =>
     rw [xV7,a42,xAb]
     simp (maxSteps := 30000000) (disch := first | assumption | omega | (simp only [WL,AV.isCell,xAd,xAf,xAe] <;> omega) | rfl | decide) only [WB,Nat.reduceAdd,Nat.reduceSub,xBe,Nd.c,hn,hnv,AV.cells,AV.isCell,↓reduceIte,xDh,e1',c7',hsh,hor,h68,xAQ,hch,Int.reduceLT,hra,xAv,Nat.reduceLT]
   ·have c7' : ¬ ((n.op : Nat) : Int) = 7 := by omega
    have hbe : bnd n bd = bd := by unfold bnd; rw [if_neg c7]
    rw [hbe] at hrec ⊢
    rcases hc2 with hc | hc | hc
    ·rw [hc] at hch ⊢
     rw [xV7,a42,xAb]
     simp (maxSteps := 30000000) (disch := first | assumption | omega | (simp only [WL,AV.isCell,xAd,xAf,xAe] <;> omega) | rfl | decide) only [WB,Nat.reduceAdd,Nat.reduceSub,xBe,Nd.c,hn,hnv,AV.cells,AV.isCell,↓reduceIte,xDh,e1',c7',h68,xAQ,hch,Int.reduceLT,Nat.reduceLT]
    ·have ha := xBd (hca (by omega))
     have hra := hrec _ ha.2
     rw [← ha.1] at hra
     rw [hc] at hch ⊢
     generalize opn fs k n.a.toNat bd = r at *
     cases r with
     | true =>
      rw [xV7,a42,xAb]
      simp (maxSteps := 30000000) (disch := first | assumption | omega | (simp only [WL,AV.isCell,xAd,xAf,xAe] <;> omega) | rfl | decide) only [WB,Nat.reduceAdd,Nat.reduceSub,xBe,Nd.c,hn,hnv,AV.cells,AV.isCell,↓reduceIte,xDh,e1',c7',h68,xAQ,hch,Int.reduceLT,hra,xAv,Nat.reduceLT]
     | false =>
      rw [xV7,a42,xAb]
      simp (maxSteps := 30000000) (disch := first | assumption | omega | (simp only [WL,AV.isCell,xAd,xAf,xAe] <;> omega) | rfl | decide) only [WB,Nat.reduceAdd,Nat.reduceSub,xBe,Nd.c,hn,hnv,AV.cells,AV.isCell,↓reduceIte,xDh,e1',c7',h68,xAQ,hch,Int.reduceLT,hra,xAv,Nat.reduceLT]
    ·have ha := xBd (hca (by omega))
     have hra := hrec _ ha.2
     rw [← ha.1] at hra
     have hb := xBd (hcb hc)
     have hrb := hrec _ hb.2
     rw [← hb.1] at hrb
     rw [hc] at hch ⊢
     generalize opn fs k n.a.toNat bd = r at *
     generalize opn fs k n.b.toNat bd = r2 at *
     cases r with
     | true =>
      rw [xV7,a42,xAb]
      simp (maxSteps := 30000000) (disch := first | assumption | omega | (simp only [WL,AV.isCell,xAd,xAf,xAe] <;> omega) | rfl | decide) only [WB,Nat.reduceAdd,Nat.reduceSub,xBe,Nd.c,hn,hnv,AV.cells,AV.isCell,↓reduceIte,xDh,e1',c7',h68,xAQ,hch,Int.reduceLT,hra,xAv,Nat.reduceLT]
     | false =>
      rw [xV7,a42,xAb]
      simp (maxSteps := 30000000) (disch := first | assumption | omega | (simp only [WL,AV.isCell,xAd,xAf,xAe] <;> omega) | rfl | decide) only [WB,Nat.reduceAdd,Nat.reduceSub,xBe,Nd.c,hn,hnv,AV.cells,AV.isCell,↓reduceIte,xDh,e1',c7',h68,xAQ,hch,Int.reduceLT,hra,xAv,hrb,Nat.reduceLT]
end
def xH5 : List Nd → List Nat → Nat
 | n :: fs,s :: ss => if xPk n s = 0 then xH5 fs ss else xPk n s
 | _,_ => 0
def chk (fs : List Nd) : Nat :=
 if fs.length = 0 then 3 else if 64 < fs.length then 4
 else if xH5 fs (szs fs []) = 0 then
  (if (szs fs []).getD (fs.length - 1) 0 = fs.length then (if opn fs fs.length (fs.length - 1) 0 = true then 11 else 0) else 2)
 else xH5 fs (szs fs [])
theorem wi_iff {lo hi : Int} {l : List Int} : wi lo hi l = true ↔ ∀ t ∈ l,lo ≤ t ∧ t ≤ hi := by
 unfold wi
 rw [List.all_eq_true]
 constructor
 ·intro h t ht
  simpa using h t ht
 ·intro h t ht
  simpa using h t ht
theorem xZ2 {op : Nat} (h : ((fnm op).toList == (⟨#[]⟩ : ByteArray).toList) = false) : 1 ≤ op ∧ op ≤ 10 := by
 by_cases c : 1 ≤ op ∧ op ≤ 10
 ·exact c
 ·exfalso
  have : fnm op = ⟨#[]⟩ := by
   unfold fnm
   simp [show op ≠ 1 by omega,show op ≠ 2 by omega,show op ≠ 3 by omega,show op ≠ 4 by omega,show op ≠ 5 by omega,show op ≠ 6 by omega,show op ≠ 7 by omega,show op ≠ 8 by omega,show op ≠ 9 by omega,show op ≠ 10 by omega]
  rw [this] at h
  simp at h
theorem xZ3 {n : Nd} {os : List Nat} (hI : ∀ k,k < os.length → os.getD k 0 ≤ k + 1) (h : szN n os ≠ 0) : (1 ≤ chn n.op → 0 ≤ n.a ∧ n.a < os.length) ∧ (chn n.op = 2 → 0 ≤ n.b ∧ n.b < os.length) := by
 unfold szN at h
 split at h
 ·constructor <;> intro q <;> omega
 split at h
 ·exact absurd rfl h
 rename_i h1
 rw [not_or] at h1
 split at h
 ·split at h
  ·rename_i q
   refine ⟨fun _ => ?_,fun _ => ?_⟩ <;> omega
  ·exact absurd rfl h
 split at h
 ·exact absurd rfl h
 split at h
 ·rename_i q
  refine ⟨fun _ => ?_,fun _ => ?_⟩ <;> omega
 ·exact absurd rfl h
theorem xZ4 {n : Nd} {os : List Nat} (hI : ∀ k,k < os.length → os.getD k 0 ≤ k + 1) (h : xPk n (szN n os) = 0) : Vn os.length n := by
 unfold xPk at h
 split at h
 ·cases h
 rename_i h0
 split at h
 ·cases h
 rename_i h1
 split at h
 ·cases h
 rename_i h2
 have ho := xZ2 (by simpa using h0)
 unfold xYJ at h1
 unfold xYK at h2
 simp only [Bool.or_eq_true,Bool.and_eq_true,not_or,not_and,Bool.not_eq_true',decide_eq_true_eq,decide_eq_false_iff_not,Bool.not_eq_true,Bool.not_eq_false,Bool.not_eq_eq_eq_not,Bool.not_false,Bool.not_true] at h1 h2
 obtain ⟨⟨⟨⟨q1,q2⟩,q3⟩,q4⟩,q5⟩ := h1
 obtain ⟨⟨r1,r2⟩,r3⟩ := h2
 have hs := xZ3 hI (by simpa using q3)
 have hhi := xWr n.op
 have q4' : ¬ n.args.length < flo n.op := by simpa using q4
 have q5' : ¬ fhi n.op < n.args.length := by simpa using q5
 refine ⟨ho,by omega,?_,?_,?_,hs.1,hs.2⟩
 ·exact wi_iff.1 (by simpa using r3)
 ·intro e
  rw [e] at q4' q5'
  have e1 : flo 3 = 2 := rfl
  have e2 : fhi 3 = 2 := rfl
  omega
 ·intro e
  have := wi_iff.1 (show wi 8 10 [n.x] = true by simpa using r2 e) n.x (by simp)
  omega
theorem xPb : ∀ (fs : List Nd) (os : List Nat),(szs fs os).take os.length = os
 | [],os => by simp [szs]
 | n :: fs,os => by
  rw [szs]
  have := xPb fs (os ++ [szN n os])
  have h2 := congrArg (List.take os.length) this
  rw [List.take_take,List.length_append,Nat.min_eq_left (by omega),List.take_append_of_le_length (Nat.le_refl _),List.take_of_length_le (Nat.le_refl _)] at h2
  exact h2
theorem xU8 (n : Nd) (fs : List Nd) (os : List Nat) : (szs (n :: fs) os).drop os.length = szN n os :: (szs fs (os ++ [szN n os])).drop (os ++ [szN n os]).length := by
 rw [szs]
 have h1 := xPb fs (os ++ [szN n os])
 have hl := xKk fs (os ++ [szN n os])
 simp only [List.length_append,List.length_singleton] at h1 hl ⊢
 rw [List.drop_eq_getElem_cons (by omega)]
 congr 1
 have h3 : (List.take (os.length + 1) (szs fs (os ++ [szN n os])))[os.length]? = (os ++ [szN n os])[os.length]? := by rw [h1]
 rw [List.getElem?_take_of_lt (by omega),List.getElem?_append_right (Nat.le_refl _),Nat.sub_self,List.getElem?_eq_getElem (by omega)] at h3
 simpa using h3
theorem xTl : ∀ (fs : List Nd) (os : List Nat),(∀ k,k < os.length → os.getD k 0 ≤ k + 1) → xH5 fs ((szs fs os).drop os.length) = 0 → ∀ j,j < fs.length → Vn (os.length + j) (fs.getD j nd0)
 | [],os,hI,h,j,hj => by simp at hj
 | n :: fs,os,hI,h,j,hj => by
  rw [xU8,xH5] at h
  split at h
  ·rename_i h0
   cases j with
   | zero => exact xZ4 hI h0
   | succ j =>
    have := xTl fs (os ++ [szN n os]) (xTz hI) h j (by simpa using hj)
    rw [List.length_append,List.length_singleton] at this
    rw [show os.length + (j + 1) = os.length + 1 + j by omega]
    simpa using this
  ·contradiction
theorem xTm (n : Nd) (s : Nat) : xPk n s ≤ 6 := by unfold xPk; split <;> (try split) <;> (try split) <;> omega
theorem xTn : ∀ (fs : List Nd) (ss : List Nat),xH5 fs ss ≤ 6
 | [],_ => by simp [xH5]
 | n :: fs,[] => by simp [xH5]
 | n :: fs,s :: ss => by
  rw [xH5]
  split
  ·exact xTn fs ss
  ·exact xTm n s
theorem xNv {fs : List Nd} (h : chk fs = 0) : 0 < fs.length ∧ fs.length ≤ 64 ∧ ∀ j,j < fs.length → Vn j (fs.getD j nd0) := by
 unfold chk at h
 split at h
 ·cases h
 split at h
 ·cases h
 split at h
 ·rename_i h0
  refine ⟨by omega,by omega,fun j hj => ?_⟩
  have := xTl fs [] (by simp) (by simpa using h0) j hj
  simpa using this
 ·contradiction
section
variable {fz : Bool} {fs : List Nd} {ss : List Nat}
abbrev F34 (fz : Bool) (fs : List Nd) (ss : List Nat) (r : Int) (i : Nat) : List AV := xL0 (.sl fz fs.length (nds fs)) (.int .i64 r) (.sl false fs.length (xCH ss)) (.sl fz fs.length (nds fs)) (.int .i64 (fs.length : Nat)) (.int .i64 (i : Nat))
set_option maxHeartbeats 4000000 in
theorem xZ5 (hlen : fs.length ≤ 64) (hs : ss.length = fs.length) : ∀ k i,i + k = fs.length → ∀ G,∃ (i' : Nat) (G' : Heap),
  L.loop xI9 xSF ⟨F34 fz fs ss 0 i,G⟩ =
   some (if xH5 (fs.drop i) (ss.drop i) = 0 then (.exit 1,⟨F34 fz fs ss 0 fs.length,G'⟩) else (.ret,⟨F34 fz fs ss (xH5 (fs.drop i) (ss.drop i) : Nat) i',G'⟩)) := by
 intro k
 induction k with
 | zero =>
  intro i hi G
  obtain rfl : i = fs.length := by omega
  refine ⟨fs.length,G,?_⟩
  rw [if_pos (by rw [List.drop_length]; rfl),xSG]
  simp (maxSteps := 30000000) (disch := first | assumption | omega | (simp only [WL,AV.isCell,xAd,xAf,xAe] <;> omega) | rfl | decide) only [xLZ,WB,↓reduceIte,xHA]
 | succ k ih =>
  intro i hi G
  have hlt : i < fs.length := by omega
  have hltI : ((i : Nat) : Int) < (fs.length : Nat) := by omega
  have em : xH5 (fs.drop i) (ss.drop i) = (if xPk (fs.getD i nd0) (ss.getD i 0) = 0 then xH5 (fs.drop (i + 1)) (ss.drop (i + 1)) else xPk (fs.getD i nd0) (ss.getD i 0)) := by
   rw [List.drop_eq_getElem_cons hlt,List.drop_eq_getElem_cons (show i < ss.length by omega),xH5,List.getD_eq_getElem?_getD,List.getElem?_eq_getElem hlt,List.getD_eq_getElem?_getD,List.getElem?_eq_getElem (by omega)]
   rfl
  rw [em]
  obtain ⟨i',G',ih'⟩ := ih (i + 1) (by omega) (G ++ [.cells false false (fs.getD i nd0).c])
  generalize hn : fs.getD i nd0 = n at *
  have h67 := xX7 n (ss.getD i 0)
  have hle := xTm n (ss.getD i 0)
  have hz : ss.getD i 0 = ss.getD i 0 := rfl
  generalize hsv : ss.getD i 0 = sv at *
  have hnv : xBL n.z n.args = .sl n.z n.args.length (xAJ n.args) := rfl
  unfold Nd.c at h67 ih'
  rw [hnv] at h67 ih'
  generalize hcv : xPk n sv = e at *
  by_cases c : e = 0
  ·subst c
   simp only [if_true]
   refine ⟨i',G',?_⟩
   rw [xSG]
   simp (maxSteps := 30000000) (disch := first | assumption | omega | (simp only [WL,AV.isCell,xAd,xAf,xAe] <;> omega) | rfl | decide) only [xLZ,WB,hltI,↓reduceIte,xBe,Nd.c,hn,hnv,AV.cells,AV.isCell,Nat.reduceAdd,xCS,xEA,xAq,hsv,h67,xAQ,xAv,xHA,ih']
  ·have c' : ¬ ((e : Nat) : Int) = 0 := by omega
   simp only [if_neg c]
   refine ⟨i,G ++ [.cells false false [.int .u8 (n.op : Nat),.int .i64 n.name,.sl n.z n.args.length (xAJ n.args),.int .i64 n.x,.int .i64 n.a,.int .i64 n.b]],?_⟩
   rw [xSG]
   simp (maxSteps := 30000000) (disch := first | assumption | omega | (simp only [WL,AV.isCell,xAd,xAf,xAe] <;> omega) | rfl | decide) only [xLZ,WB,hltI,↓reduceIte,xBe,Nd.c,hn,hnv,AV.cells,AV.isCell,Nat.reduceAdd,xCS,xEA,xAq,hsv,h67,xAQ,xAv,c',xHA]
set_option maxHeartbeats 4000000 in
theorem xNw (fz : Bool) (fs : List Nd) (h47 : fs.length < 1000) : L.pcall 34 [.sl fz fs.length (nds fs)] = some (.int .i64 (chk fs : Nat)) := by
 unfold chk
 by_cases c1 : fs.length = 0
 ·rw [if_pos c1]
  have c1' : ((fs.length : Nat) : Int) = 0 := by omega
  rw [xYI,a34,xAb]
  simp (maxSteps := 30000000) (disch := first | assumption | omega | (simp only [WL,AV.isCell,xAd,xAf,xAe] <;> omega) | rfl | decide) only [WB,Nat.reduceSub,c1',↓reduceIte]
 have c1' : ¬ ((fs.length : Nat) : Int) = 0 := by omega
 rw [if_neg c1]
 by_cases c2 : 64 < fs.length
 ·rw [if_pos c2]
  have c2' : (64 : Int) < ((fs.length : Nat) : Int) := by omega
  rw [xYI,a34,xAb]
  simp (maxSteps := 30000000) (disch := first | assumption | omega | (simp only [WL,AV.isCell,xAd,xAf,xAe] <;> omega) | rfl | decide) only [WB,Nat.reduceSub,c1',↓reduceIte,c2']
 have c2' : ¬ (64 : Int) < ((fs.length : Nat) : Int) := by omega
 rw [if_neg c2]
 have h66 := xX5 (fz := fz) (show fs.length ≤ 64 by omega)
 have hsl := xKk fs []
 have hv0 := xTl fs [] (by simp)
 have hle := xTn fs (szs fs [])
 have hend : xH5 fs (szs fs []) = 0 → ∀ j,j < fs.length → Vn j (fs.getD j nd0) := by
  intro h0 j hj
  have := hv0 (by simpa using h0) j hj
  simpa using this
 simp only [List.length_nil,Nat.zero_add] at hsl
 generalize szs fs [] = ss at *
 obtain ⟨i',G',e1⟩ := xZ5 (fz := fz) (show fs.length ≤ 64 by omega) hsl fs.length 0 (by omega) []
 simp only [List.drop_zero] at e1
 have e1' : L.loop xI9 xSF ⟨xL0 (.sl fz fs.length (nds fs)) (.int .i64 0) (.sl false fs.length (xCH ss)) (.sl fz fs.length (nds fs)) (.int .i64 (fs.length : Nat)) (.int .i64 0),[]⟩ = _ := e1
 by_cases c3 : xH5 fs ss = 0
 ·rw [if_pos c3] at e1' ⊢
  have h42 := xZ1 (fz := fz) (show fs.length ≤ 64 by omega) (hend c3) fs.length (fs.length - 1) 0 (by omega) (by omega) (by omega)
  have hsub : ((fs.length : Nat) : Int) - 1 = ((fs.length - 1 : Nat) : Int) := by omega
  have h42 : L.pcall 42 [.sl fz fs.length (nds fs),.int .i64 (fs.length - 1 : Nat),.int .u64 0] = _ := h42
  generalize hsv : ss.getD (fs.length - 1) 0 = v
  by_cases c4 : v = fs.length
  ·rw [if_pos c4]
   have c4' : (((v : Nat) : Int) = (fs.length : Nat)) = True := eq_true (by omega)
   cases ho : opn fs fs.length (fs.length - 1) 0 with
   | true =>
    rw [ho] at h42
    rw [xYI,a34,xAb]
    simp (maxSteps := 30000000) (disch := first | assumption | omega | (simp only [WL,AV.isCell,xAd,xAf,xAe] <;> omega) | rfl | decide) only [WB,Nat.reduceSub,c1',↓reduceIte,c2',h66,xAQ,xAv,xHA,e1',hsub,hsv,c4',h42]
   | false =>
    rw [ho] at h42
    rw [xYI,a34,xAb]
    simp (maxSteps := 30000000) (disch := first | assumption | omega | (simp only [WL,AV.isCell,xAd,xAf,xAe] <;> omega) | rfl | decide) only [WB,Nat.reduceSub,c1',↓reduceIte,c2',h66,xAQ,xAv,xHA,e1',hsub,hsv,c4',h42]
  ·rw [if_neg c4]
   have c4' : ¬ (((v : Nat) : Int) = (fs.length : Nat)) := by omega
   rw [xYI,a34,xAb]
   simp (maxSteps := 30000000) (disch := first | assumption | omega | (simp only [WL,AV.isCell,xAd,xAf,xAe] <;> omega) | rfl | decide) only [WB,Nat.reduceSub,c1',↓reduceIte,c2',h66,xAQ,xAv,xHA,e1',hsub,hsv,c4']
 ·rw [if_neg c3] at e1' ⊢
  generalize xH5 fs ss = r at *
  rw [xYI,a34,xAb]
  simp (maxSteps := 30000000) (disch := first | assumption | omega | (simp only [WL,AV.isCell,xAd,xAf,xAe] <;> omega) | rfl | decide) only [WB,Nat.reduceSub,c1',↓reduceIte,c2',h66,xAQ,xAv,xHA,e1']
end
def WN (n : Nd) : Prop := n.z = n.args.isEmpty
set_option maxHeartbeats 1000000 in
theorem xXI {z : Bool} {l : List Int} (hz : z = l.isEmpty) (hl : l.length ≤ 1000) : L.pcall 83 [.sl z l.length (xAJ l)] = some (.sl z l.length (xAJ l)) := by
 cases l with
 | nil =>
  subst hz
  show L.pcall 83 [.sl true 0 []] = some (.sl true 0 [])
  rw [yCw,a83,xAb]
  simp (maxSteps := 30000000) (disch := first | assumption | omega | (simp only [WL,AV.isCell,xAd,xAf,xAe] <;> omega) | rfl | decide) only [WB,Nat.reduceSub,↓reduceIte]
 | cons x l =>
  subst hz
  have h0 : (x :: l).isEmpty = false := rfl
  rw [h0]
  generalize x :: l = l at *
  rw [yCw,a83,xAb]
  simp (maxSteps := 30000000) (disch := first | assumption | omega | (simp only [WL,AV.isCell,xAd,xAf,xAe] <;> omega) | rfl | decide) only [WB,Nat.reduceSub,↓reduceIte,AV.cells,xBS,W2]
theorem xU9 {l : List AV} {k : Nat} {x : AV} (h : l[k]? = some x) : List.take k l ++ (x :: List.drop (k + 1) l) = l := by
 obtain ⟨hk,hx⟩ := List.getElem?_eq_some_iff.1 h
 rw [← hx,← List.drop_eq_getElem_cons hk,List.take_append_drop]
theorem xXJ {fs : List Nd} {i : Nat} (h : i < fs.length) : (nds fs)[i * 6 + 2]? = some (xBL (fs.getD i nd0).z (fs.getD i nd0).args) := by
 have h1 := xBe h
 have h2 := congrArg (fun l => l[2]?) h1
 simp only [List.getElem?_take_of_lt (show 2 < 6 by omega),List.getElem?_drop] at h2
 rw [h2]; rfl
theorem xXK (d : Nat) (H : Heap) (n : Nd) : n.c.mapM (frz d H) = some n.c := by
 unfold Nd.c xBL
 simp [List.mapM_cons,xCF,xEZ]
theorem xTo (d : Nat) (H : Heap) : ∀ l : List Nd,(nds l).mapM (frz d H) = some (nds l)
 | [] => rfl
 | n :: l => mapM_append' (xXK d H n) (xTo d H l)
theorem xPc (l : List Nd) : List.take (l.length * 6) (nds l) = nds l := List.take_of_length_le (by rw [xAe]; omega)
theorem xPd : ∀ l : List Nd,(nds l).all xBx = true
 | [] => rfl
 | n :: l => by
  show (n.c ++ nds l).all xBx = true
  rw [List.all_append,xPd l]
  simp [Nd.c,xBL,xBx]
section
variable {fs : List Nd} {ob : Nat}
abbrev F50 (fs : List Nd) (ob i : Nat) : List AV := xL5 (.own false ob 0 fs.length 6) (.own false ob 0 fs.length 6) (.int .i64 (fs.length : Nat)) (.int .i64 (i : Nat))
set_option maxHeartbeats 4000000 in
theorem xZ6 (hlen : fs.length ≤ 64) (hw : ∀ j,j < fs.length → WN (fs.getD j nd0)) (ha : ∀ j,j < fs.length → (fs.getD j nd0).args.length ≤ 1000) : ∀ k i,i + k = fs.length → ∀ G : Heap,G[ob]? = some (.cells false false (nds fs)) → ∃ G' : Heap,
  L.loop xJi xSK ⟨F50 fs ob i,G⟩ = some (.exit 0,⟨F50 fs ob fs.length,G'⟩) ∧ G'[ob]? = some (.cells false false (nds fs)) := by
 intro k
 induction k with
 | zero =>
  intro i hi G go
  obtain rfl : i = fs.length := by omega
  refine ⟨G,?_,go⟩
  rw [xV4]
  simp (maxSteps := 30000000) (disch := first | assumption | omega | (simp only [WL,AV.isCell,xAd,xAf,xAe] <;> omega) | rfl | decide) only [xOW,WB,↓reduceIte,xSL]
 | succ k ih =>
  intro i hi G go
  have hlt : i < fs.length := by omega
  have hltI : ((i : Nat) : Int) < (fs.length : Nat) := by omega
  have lo := xBs go
  obtain ⟨G',e1,g1⟩ := ih (i + 1) (by omega) (G ++ [.cells false false (fs.getD i nd0).c]) (by rw [xA3 lo]; exact go)
  refine ⟨G',?_,g1⟩
  have hput := xU9 (xXJ hlt)
  have h83 := xXI (hw i hlt) (ha i hlt)
  have xBN : G.set ob (.cells false false (nds fs)) = G := by
   obtain ⟨hk,hx⟩ := List.getElem?_eq_some_iff.1 go
   rw [← hx,List.set_getElem_self]
  generalize hn : fs.getD i nd0 = n at *
  have hnv : xBL n.z n.args = .sl n.z n.args.length (xAJ n.args) := rfl
  unfold Nd.c at e1
  rw [hnv] at e1 hput
  rw [xV4]
  simp (maxSteps := 30000000) (disch := first | assumption | omega | (simp only [WL,AV.isCell,xAd,xAf,xAe] <;> omega) | rfl | decide) only [xOW,WB,hltI,↓reduceIte,go,xBe,Nd.c,hn,hnv,AV.cells,AV.isCell,Nat.reduceAdd,xCS,xEA,h83,xAQ,xAv,xA3,hput,xMA,xBN,xSL,e1]
set_option maxHeartbeats 4000000 in
theorem xXL (h0 : 0 < fs.length) (hlen : fs.length ≤ 64) : xCv L 82 [.sl false fs.length (nds fs)] = some (.own false 0 0 fs.length 6,[.cells false false (nds fs)]) := by
 rw [xLJ,yDb,a82,xAo]
 simp (maxSteps := 30000000) (disch := first | assumption | omega | (simp only [WL,AV.isCell,xAd,xAf,xAe] <;> omega) | rfl | decide) only [WB,Nat.reduceSub,↓reduceIte,AV.cells,Nat.zero_mul,WP,xPd]
set_option maxHeartbeats 4000000 in
theorem xVa (h0 : 0 < fs.length) (hlen : fs.length ≤ 64) (hw : ∀ j,j < fs.length → WN (fs.getD j nd0)) (ha : ∀ j,j < fs.length → (fs.getD j nd0).args.length ≤ 1000) : L.pcall 50 [.sl false fs.length (nds fs)] = some (.sl false fs.length (nds fs)) := by
 have h82 := xXL h0 hlen
 obtain ⟨G',e1,g1⟩ := xZ6 (ob := 0) hlen hw ha fs.length 0 (by omega) [.cells false false (nds fs)] rfl
 have e1' : L.loop xJi xSK ⟨xL5 (.own false 0 0 fs.length 6) (.own false 0 0 fs.length 6) (.int .i64 (fs.length : Nat)) (.int .i64 0),[.cells false false (nds fs)]⟩ = _ := e1
 rw [yC4,a50,xAb]
 simp (maxSteps := 30000000) (disch := first | assumption | omega | (simp only [WL,AV.isCell,xAd,xAf,xAe] <;> omega) | rfl | decide) only [WB,Nat.reduceSub,WP,h82,xBM,xES,xCa,xSL,e1',↓reduceIte,xBS,g1,xPc,xTo]
end
def nT (l : List Nd) : Nat := (l.filter fun n => tmp n.op).length
def zr (c : Nat) : List (List Nat) := List.replicate c (List.replicate 64 0)
theorem xXM (c : Nat) : (zr c).flatten = List.replicate (64 * c) 0 := by
 unfold zr
 rw [List.flatten_replicate_replicate,Nat.mul_comm]
theorem xXN (fs : List Nd) : Rows fs (zr (nT fs)) := by
 refine ⟨by simp [zr,nT],fun w hw => ?_⟩
 have := List.eq_of_mem_replicate hw
 subst this
 refine ⟨by simp,fun x hx => ?_⟩
 have := List.eq_of_mem_replicate hx
 omega
theorem yBT (l : List Nd) : nT l ≤ l.length := List.length_filter_le _ _
theorem xXO {fs : List Nd} {i : Nat} (h : i < fs.length) : nT (fs.take (i + 1)) = nT (fs.take i) + (if tmp (fs.getD i nd0).op = true then 1 else 0) := by
 rw [List.take_succ_eq_append_getElem h]
 unfold nT
 rw [List.filter_append,List.length_append,List.getD_eq_getElem?_getD,List.getElem?_eq_getElem h]
 congr 1
 simp only [List.filter_cons,List.filter_nil,Option.getD_some]
 split <;> rfl
section
variable {fs : List Nd} {m B : Nat}
abbrev F19 (fs : List Nd) (m i : Nat) : List AV := xLR (.ptr m 0) (.sl false fs.length (nds fs)) (.int .i64 (fs.length : Nat)) (.int .i64 (i : Nat))
set_option maxHeartbeats 4000000 in
theorem xZ7 (hlen : fs.length ≤ 64) (hV : ∀ j,j < fs.length → Vn j (fs.getD j nd0)) (hB : B ≤ m) : ∀ k i,i + k = fs.length → ∀ (G : Heap) (sb c : Nat),c = nT (fs.take i) → B ≤ sb → m ≠ sb →
  G[m]? = some (.cells false false [.sl false fs.length (nds fs),.own false sb 0 (64 * c + 1) 1]) → G[sb]? = some (.cells false false (bs (List.replicate (64 * c + 1) 0))) → ∃ (G' : Heap) (sb' : Nat),
  L.loop xI2 xSz ⟨F19 fs m i,G⟩ = some (.exit 0,⟨F19 fs m fs.length,G'⟩) ∧ B ≤ sb' ∧ m ≠ sb' ∧ Kp B G G' ∧
   G'[m]? = some (.cells false false [.sl false fs.length (nds fs),.own false sb' 0 (64 * nT fs + 1) 1]) ∧ G'[sb']? = some (.cells false false (bs (List.replicate (64 * nT fs + 1) 0))) := by
 intro k
 induction k with
 | zero =>
  intro i hi G sb c hc h1 h2 gm gb
  obtain rfl : i = fs.length := by omega
  rw [List.take_length] at hc
  subst hc
  refine ⟨G,sb,?_,h1,h2,.refl _ _,gm,gb⟩
  rw [xSA]
  simp (maxSteps := 30000000) (disch := first | assumption | omega | (simp only [WL,AV.isCell,xAd,xAf,xAe] <;> omega) | rfl | decide) only [xLQ,WB,↓reduceIte,xOS]
 | succ k ih =>
  intro i hi G sb c hc h1 h2 gm gb
  have hlt : i < fs.length := by omega
  have hltI : ((i : Nat) : Int) < (fs.length : Nat) := by omega
  have lm := xBs gm
  have lb := xBs gb
  have hs := xXO hlt
  have hcl : c ≤ 64 := by
   rw [hc]
   have := yBT (fs.take i)
   rw [List.length_take] at this
   omega
  have h51 := xX8 (hV i hlt).op
  generalize hn : fs.getD i nd0 = n at *
  have hnv : xBL n.z n.args = .sl n.z n.args.length (xAJ n.args) := rfl
  cases ht : tmp n.op with
  | false =>
   rw [ht] at h51 hs
   simp only [Bool.false_eq_true,if_false,Nat.add_zero] at hs
   obtain ⟨G',sb',e1,q1,q2,q3,q4,q5⟩ := ih (i + 1) (by omega) (G ++ [.cells false false n.c]) sb c (hc.trans hs.symm) h1 h2 (by rw [xA3 lm]; exact gm) (by rw [xA3 lb]; exact gb)
   refine ⟨G',sb',?_,q1,q2,(Kp.appB _ _ (by omega)).trans q3,q4,q5⟩
   unfold Nd.c at e1
   rw [hnv] at e1
   rw [xSA]
   simp (maxSteps := 30000000) (disch := first | assumption | omega | (simp only [WL,AV.isCell,xAd,xAf,xAe] <;> omega) | rfl | decide) only [xLQ,WB,hltI,↓reduceIte,xBe,Nd.c,hn,hnv,AV.cells,AV.isCell,Nat.reduceAdd,xCS,xEA,h51,xAQ,xAv,xOS,e1]
  | true =>
   rw [ht] at h51 hs
   simp only [if_true] at hs
   have hrep : List.replicate (64 * c + 1) 0 ++ List.replicate 64 0 = List.replicate (64 * (c + 1) + 1) 0 := by
    rw [List.replicate_append_replicate]; congr 1
   obtain ⟨G',sb',e1,q1,q2,q3,q4,q5⟩ := ih (i + 1) (by omega) ((G.set sb .dead).set m (.cells false false [.sl false fs.length (nds fs),.own false (G.length + 1) 0 (64 * (c + 1) + 1) 1]) ++ [.cells false false n.c,.cells false false (bs (List.replicate (64 * (c + 1) + 1) 0))]) (G.length + 1) (c + 1) (by rw [hs,hc]) (by omega) (by omega)
    (by rw [xA3 (by simpa using lm),xFa (by simpa using lm)])
    (by rw [xKm (by simp)]; simp)
   refine ⟨G',sb',?_,q1,q2,(((Kp.set h1).trans (Kp.set hB)).trans (Kp.appB _ _ (by simp; omega))).trans q3,q4,q5⟩
   unfold Nd.c at e1
   rw [hnv] at e1
   have hl1 : 64 * c + 1 + 64 = 64 * (c + 1) + 1 := by omega
   have hrz : xCD [AV.int .u8 0] 64 = bs (List.replicate 64 0) := xXv 64
   have hrl : (bs (List.replicate (64 * c + 1) 0)).length = 64 * c + 1 := by rw [xBu]; simp
   have happ : bs (List.replicate (64 * c + 1) 0) ++ bs (List.replicate 64 0) = bs (List.replicate (64 * (c + 1) + 1) 0) := by rw [← hrep]; simp [bs]
   have hms : sb ≠ m := fun q => h2 q.symm
   have htk : List.take (64 * c + 1) (bs (List.replicate (64 * c + 1) 0)) = bs (List.replicate (64 * c + 1) 0) := List.take_of_length_le (by omega)
   generalize bs (List.replicate (64 * (c + 1) + 1) 0) = L2 at *
   generalize bs (List.replicate (64 * c + 1) 0) = L1 at *
   have happz : xSa [.int .u8 0] 1 sb 0 (64 * c + 1) 1 64 (G ++ [.cells false false [.int .u8 (n.op : Nat),.int .i64 n.name,.sl n.z n.args.length (xAJ n.args),.int .i64 n.x,.int .i64 n.a,.int .i64 n.b]]) (some (.cells false false L1)) =
     some (.own false (G.length + 1) 0 (64 * (c + 1) + 1) 1,(G ++ [Blk.cells false false [.int .u8 (n.op : Nat),.int .i64 n.name,.sl n.z n.args.length (xAJ n.args),.int .i64 n.x,.int .i64 n.a,.int .i64 n.b]]).set sb .dead ++ [.cells false false L2]) := by
    have := xNa (z := [.int .u8 0]) (bytes := 1) (id := sb) (k := 64 * c + 1) (m := 64) (zz := false) (cs := L1) (H := G ++ [.cells false false [.int .u8 (n.op : Nat),.int .i64 n.name,.sl n.z n.args.length (xAJ n.args),.int .i64 n.x,.int .i64 n.a,.int .i64 n.b]]) (by show (64 * c + 1) * 1 ≤ _; omega) (by omega) (by omega) (by omega) rfl
    rw [hrz,hl1,List.length_append,show (64 * c + 1) * [AV.int .u8 0].length = 64 * c + 1 from Nat.mul_one _,htk,happ] at this
    exact this
   rw [xSA]
   simp (maxSteps := 30000000) (disch := first | assumption | omega | (simp only [WL,AV.isCell,xAd,xAf,xAe] <;> omega) | rfl | decide) only [xLQ,WB,hltI,↓reduceIte,xBe,Nd.c,hn,hnv,AV.cells,AV.isCell,Nat.reduceAdd,xCS,xEA,h51,xAQ,xAv,xA3,gm,xSb,Int.reduceToNat,gb,happz,xMA,xB2,xOS,e1]
theorem xTp (fz : Bool) (fs : List Nd) (hlen : fs.length < 1000) (h : chk fs ≠ 0) (G : Heap) : L.icall (.func 19 []) [.sl fz fs.length (nds fs)] G = some (.tup [.nilp,.int .i64 (chk fs : Nat)],G) := by
 have h34 := xNw fz fs hlen
 have h' : ¬ ((chk fs : Nat) : Int) = 0 := by omega
 generalize chk fs = e at *
 rw [yCs,a19,xAo]
 simp (disch := omega) only [WB,Nat.reduceSub,h34,xAQ,xAv,↓reduceIte,h']
set_option maxHeartbeats 4000000 in
theorem xXP (h : chk fs = 0) (hw : ∀ j,j < fs.length → WN (fs.getD j nd0)) (G : Heap) : ∃ (G' : Heap) (m sb : Nat),L.icall (.func 19 []) [.sl false fs.length (nds fs)] G = some (.tup [.ptr m 0,.int .i64 0],G') ∧
  Mo false fs m sb G' (zr (nT fs)) 0 ∧ Kp G.length G G' ∧ G.length ≤ m ∧ G.length ≤ sb := by
 obtain ⟨h0,hlen,hV⟩ := xNv h
 have h34 := xNw false fs (by omega)
 rw [h] at h34
 have h34' : L.pcall 34 [.sl false fs.length (nds fs)] = some (.int .i64 0) := h34
 have h50 := xVa h0 hlen hw (fun j hj => Nat.le_trans (hV j hj).al (by omega))
 obtain ⟨G',sb',e1,q1,q2,q3,q4,q5⟩ := xZ7 (B := G.length) hlen hV (m := G.length + 1) (by omega) fs.length 0 (by omega) (G ++ [.cells false false [.int .u8 0],.cells false false [.sl false fs.length (nds fs),.own false G.length 0 1 1]]) G.length 0 (by simp [nT]) (by omega) (by omega)
  (by rw [xKm (by omega)]; simp) (by rw [List.getElem?_append_right (Nat.le_refl _),Nat.sub_self]; rfl)
 refine ⟨G',G.length + 1,sb',?_,⟨?_,?_,q2,xXN fs,by omega⟩,(Kp.app _ _).trans q3,by omega,q1⟩
 ·have e1' : L.loop xI2 xSz ⟨xLR (.ptr (G.length + 1) 0) (.sl false fs.length (nds fs)) (.int .i64 (fs.length : Nat)) (.int .i64 0),G ++ [.cells false false [.int .u8 0],.cells false false [.sl false fs.length (nds fs),.own false G.length 0 1 1]]⟩ = _ := e1
  rw [yCs,a19,xAo]
  simp (disch := omega) only [WB,Nat.reduceSub,h34',xAQ,xAv,↓reduceIte,h50,AV.cells,AV.isCell,Nat.reduceAdd,Nat.reduceLeDiff,xOS,e1']
 ·rw [q4]; simp [zr]
 ·rw [q5,xXM,show 64 * nT fs + 1 = (64 * nT fs) + 1 from rfl,List.replicate_succ]
end
def evC (e : Ev) : List AV := [.int .i64 e.name,xBL e.z e.args]
def ev0 : Ev := ⟨0,true,[]⟩
abbrev evs (l : List Ev) : List AV := rows evC l
theorem xCG (l : List Ev) : (evs l).length = l.length * 2 := xDd (enc := evC) (k := 2) (fun _ => rfl) l
theorem xJt {l : List Ev} {i : Nat} (h : i < l.length) : List.take 2 (List.drop (i * 2) (evs l)) = evC (l.getD i ev0) := by
 rw [xDR (enc := evC) (k := 2) (fun _ => rfl),List.drop_eq_getElem_cons h]
 have : rows evC (l[i] :: l.drop (i + 1)) = evC l[i] ++ rows evC (l.drop (i + 1)) := rfl
 rw [this,List.take_append_of_le_length (by simp [evC]),List.take_of_length_le (by simp [evC]),List.getD_eq_getElem?_getD,List.getElem?_eq_getElem h]
 rfl
def bls (l : List Bool) : List AV := l.map AV.bool
theorem xC9 (l : List Bool) : (bls l).length = l.length := by simp [bls]
theorem xXQ (a b : List Bool) : bls a ++ bls b = bls (a ++ b) := by simp [bls]
theorem xNx {l : List Bool} {k : Nat} (h : k < l.length) : List.take 1 (List.drop k (bls l)) = [AV.bool (l.getD k false)] := by
 rw [List.drop_eq_getElem_cons (by simpa [bls] using h),List.take_succ_cons,List.take_zero]
 simp [bls,List.getD_eq_getElem?_getD,List.getElem?_eq_getElem h]
theorem xTq (d : Nat) (H : Heap) : ∀ l : List Bool,(bls l).mapM (frz d H) = some (bls l)
 | [] => rfl
 | b :: l => by
  have := xTq d H l
  show List.mapM _ (AV.bool b :: bls l) = _
  rw [List.mapM_cons,xGr,this]; rfl
theorem xPe (l : List Bool) : List.take l.length (bls l) = bls l := List.take_of_length_le (by rw [xC9]; omega)
def xMp (fs : List Nd) (e : Ev) (ws : List (List Nat)) : Bool := ((xBT e fs [] ws).1.getD (fs.length - 1) fQ) 0
def vL (fs : List Nd) : List Ev → List (List Nat) → List Bool
 | [],_ => []
 | e :: es,ws => xMp fs e ws :: vL fs es (xBT e fs [] ws).2
theorem xJu (fs : List Nd) : ∀ (es : List Ev) (ws : List (List Nat)),(vL fs es ws).length = es.length
 | [],_ => rfl
 | e :: es,ws => by simp [vL,xJu fs es]
def Gr (G : Heap) (v : AV) (l : List Bool) (B m sb : Nat) : Prop := (l = [] ∧ v = .sl true 0 []) ∨ ∃ o,v = .own false o 0 l.length 1 ∧ G[o]? = some (.cells false false (bls l)) ∧ l ≠ [] ∧ B ≤ o ∧ o ≠ m ∧ o ≠ sb
section
variable {fs : List Nd} {l : List Ev} {m sb B : Nat} {z : Bool}
abbrev F35 (m : Nat) (z : Bool) (l : List Ev) (r : Int) (v : AV) (i : Nat) : List AV := xL1 (.sl true 0 []) (.int .i64 r) (.ptr m 0) v (.sl z l.length (evs l)) (.int .i64 (l.length : Nat)) (.int .i64 (i : Nat))
set_option maxHeartbeats 4000000 in
theorem xZ8 (h0 : 0 < fs.length) (hlen : fs.length ≤ 64) (hV : ∀ j,j < fs.length → Vn j (fs.getD j nd0)) (hl : l.length ≤ 64) : ∀ k i,i + k = l.length → ∀ (G : Heap) (ws : List (List Nat)) (h : Nat) (v : AV) (out : List Bool),out.length = i → Mo false fs m sb G ws h → B ≤ m → B ≤ sb → Gr G v out B m sb → ∃ (G' : Heap) (i' : Nat) (v' : AV),
  L.loop xHB xQd ⟨F35 m z l 0 v i,G⟩ = some (if (l.drop i).all xDl = true then (.exit 1,⟨F35 m z l 0 v' l.length,G'⟩) else (.ret,⟨F35 m z l 1 v' i',G'⟩)) ∧
   ((l.drop i).all xDl = true → Gr G' v' (out ++ vL fs (l.drop i) ws) B m sb) ∧ Kp B G G' := by
 intro k
 induction k with
 | zero =>
  intro i hi G ws h v out ho hm b1 b2 hg
  obtain rfl : i = l.length := by omega
  refine ⟨G,l.length,v,?_,fun _ => ?_,.refl _ _⟩
  ·rw [if_pos (by rw [List.drop_length]; rfl),xOT]
   simp (maxSteps := 30000000) (disch := first | assumption | omega | (simp only [WL,AV.isCell,xAd,xAf,xAe,xCG,xC9] <;> omega) | rfl | decide) only [xJa,WB,↓reduceIte,xHC]
  ·rw [List.drop_length]
   simpa [vL] using hg
 | succ k ih =>
  intro i hi G ws h v out ho hm b1 b2 hg
  have hlt : i < l.length := by omega
  have hltI : ((i : Nat) : Int) < (l.length : Nat) := by omega
  have em : (l.drop i).all xDl = (xDl (l.getD i ev0) && (l.drop (i + 1)).all xDl) := by
   rw [List.drop_eq_getElem_cons hlt,List.getD_eq_getElem?_getD,List.getElem?_eq_getElem hlt]
   rfl
  have ev : vL fs (l.drop i) ws = xMp fs (l.getD i ev0) ws :: vL fs (l.drop (i + 1)) (xBT (l.getD i ev0) fs [] ws).2 := by
   rw [List.drop_eq_getElem_cons hlt,List.getD_eq_getElem?_getD,List.getElem?_eq_getElem hlt]
   rfl
  rw [em,ev]
  have lm := xBs hm.gm
  have lb := xBs hm.gb
  generalize hn : l.getD i ev0 = e at *
  have hnv : xBL e.z e.args = .sl e.z e.args.length (xAJ e.args) := rfl
  have hm1 : Mo false fs m sb (G ++ [.cells false false (evC e)]) ws h := ⟨by rw [xA3 lm]; exact hm.gm,by rw [xA3 lb]; exact hm.gb,hm.ne,hm.rw,hm.h0⟩
  cases hk : xDl e with
  | false =>
   obtain ⟨G1,e1,k1⟩ := xJv hm1 h0 hk
   simp only [Bool.false_and,Bool.false_eq_true,if_false]
   refine ⟨G1,i,v,?_,fun h => (by cases h),(Kp.appB _ _ (by omega)).trans (k1.low (by simp; omega))⟩
   unfold evA at e1
   unfold evC at e1
   rw [hnv] at e1
   rw [xOT]
   simp (maxSteps := 30000000) (disch := first | assumption | omega | (simp only [WL,AV.isCell,xAd,xAf,xAe,xCG,xC9] <;> omega) | rfl | decide) only [xJa,WB,hltI,↓reduceIte,xJt,evC,hn,hnv,AV.cells,AV.isCell,Nat.reduceAdd,xCS,xEA,e1,Int.reduceEq,xHC]
  | true =>
   obtain ⟨G1,e1,m1,k1⟩ := xMq hm1 h0 (by omega) hV hk
   simp only [Bool.true_and]
   change L.icall (.func 22 []) [.ptr m 0,evA e] _ = some (.tup [.bool (xMp fs e ws),.int .i64 0],G1) at e1
   unfold evA at e1
   unfold evC at e1
   rw [hnv] at e1
   have l1 := k1.1
   simp only [List.length_append,List.length_cons,List.length_nil] at l1
   have kG : Kp B G G1 := (Kp.appB _ _ (by omega)).trans ((k1.low (by simp; omega)).kp b2)
   have lm1 := xBs m1.gm
   have lb1 := xBs m1.gb
   generalize (xBT e fs [] ws).2 = ws2 at *
   generalize xMp fs e ws = b at *
   rcases hg with ⟨rfl,rfl⟩ | ⟨o,rfl,go,hne,bo,om,os⟩
   ·have m2 : Mo false fs m sb (G1 ++ [.cells false false (bls [b])]) ws2 1 := ⟨by rw [xA3 lm1]; exact m1.gm,by rw [xA3 lb1]; exact m1.gb,m1.ne,m1.rw,m1.h0⟩
    obtain ⟨G',i',v',e2,g2,k2⟩ := ih (i + 1) (by omega) (G1 ++ [.cells false false (bls [b])]) ws2 1 (.own false G1.length 0 1 1) [b] (by simp at ho ⊢; omega) m2 b1 b2
     (.inr ⟨G1.length,rfl,by rw [List.getElem?_append_right (Nat.le_refl _),Nat.sub_self]; rfl,by simp,by omega,by omega,by omega⟩)
    refine ⟨G',i',v',?_,fun h => ?_,kG.trans ((Kp.appB _ _ (by omega)).trans k2)⟩
    ·have e2' : L.loop xHB xQd ⟨F35 m z l 0 (.own false G1.length 0 1 1) (i + 1),G1 ++ [.cells false false [.bool b]]⟩ = _ := e2
     rw [xOT]
     simp (maxSteps := 30000000) (disch := first | assumption | omega | (simp only [WL,AV.isCell,xAd,xAf,xAe,xCG,xC9] <;> omega) | rfl | decide) only [xJa,WB,hltI,↓reduceIte,xJt,evC,hn,hnv,AV.cells,AV.isCell,Nat.reduceAdd,xCS,xEA,e1,Nat.reduceBEq,xHC,e2']
    ·have := g2 h
     simpa using this
   ·have lo := xBs go
    have go1 : G1[o]? = some (.cells false false (bls out)) := by rw [k1.2 o (by simp; omega) os,xA3 lo]; exact go
    have lo1 := xBs go1
    have m2 : Mo false fs m sb (G1.set o .dead ++ [.cells false false (bls (out ++ [b]))]) ws2 1 := ⟨by rw [xA3 (by simpa using lm1),xB2 (by omega)]; exact m1.gm,by rw [xA3 (by simpa using lb1),xB2 (by omega)]; exact m1.gb,m1.ne,m1.rw,m1.h0⟩
    obtain ⟨G',i',v',e2,g2,k2⟩ := ih (i + 1) (by omega) (G1.set o .dead ++ [.cells false false (bls (out ++ [b]))]) ws2 1 (.own false G1.length 0 (out.length + 1) 1) (out ++ [b]) (by simp; omega) m2 b1 b2
     (.inr ⟨G1.length,by simp,by rw [List.getElem?_append_right (by simp),List.length_set,Nat.sub_self]; rfl,by simp,by omega,by omega,by omega⟩)
    refine ⟨G',i',v',?_,fun h => ?_,kG.trans (((Kp.set bo).trans (Kp.appB _ _ (by simp; omega))).trans k2)⟩
    ·have hba : bls out ++ [.bool b] = bls (out ++ [b]) := xXQ out [b]
     have hbt := xPe out
     have hbl := xC9 out
     generalize bls (out ++ [b]) = L2 at *
     generalize bls out = L1 at *
     rw [xOT]
     simp (maxSteps := 30000000) (disch := first | assumption | omega | (simp only [WL,AV.isCell,xAd,xAf,xAe,xCG,xC9] <;> omega) | rfl | decide) only [xJa,WB,hltI,↓reduceIte,xJt,evC,hn,hnv,AV.cells,AV.isCell,Nat.reduceAdd,xCS,xEA,e1,go1,Nat.reduceBEq,hbt,hba,xHC,e2]
    ·have := g2 h
     simpa using this
set_option maxHeartbeats 4000000 in
theorem xQh (fz : Bool) (fs : List Nd) (hlen : fs.length < 1000) (hc : chk fs ≠ 0) (z : Bool) (l : List Ev) : L.pcall 35 [.sl fz fs.length (nds fs),.sl z l.length (evs l)] = some (.tup [.sl true 0 [],.int .i64 (chk fs : Nat)]) := by
 have h19 := xTp fz fs hlen hc []
 have hc' : ¬ ((chk fs : Nat) : Int) = 0 := by omega
 generalize chk fs = c at *
 rw [yAS,a35,xAb]
 simp (disch := omega) only [WB,Nat.reduceAdd,Nat.reduceSub,h19,hc',↓reduceIte]
set_option maxHeartbeats 4000000 in
theorem xPf (hc : chk fs = 0) (hw : ∀ j,j < fs.length → WN (fs.getD j nd0)) (z : Bool) (l : List Ev) (hl : l.length ≤ 64) : L.pcall 35 [.sl false fs.length (nds fs),.sl z l.length (evs l)] =
  some (if l.all xDl = true then .tup [.sl l.isEmpty l.length (bls (vL fs l (zr (nT fs)))),.int .i64 0] else .tup [.sl true 0 [],.int .i64 1]) := by
 obtain ⟨h0,hlen,hV⟩ := xNv hc
 obtain ⟨G1,m,sb,h19,hm,-,-,-⟩ := xXP hc hw []
 have hl' : ¬ (64 : Int) < (l.length : Nat) := by omega
 obtain ⟨G',i',v',e1,g1,-⟩ := xZ8 (B := 0) (z := z) (l := l) h0 hlen hV hl l.length 0 (by omega) G1 _ 0 (.sl true 0 []) [] rfl hm (by omega) (by omega) (.inl ⟨rfl,rfl⟩)
 rw [List.drop_zero] at e1 g1
 have e1' : L.loop xHB xQd ⟨xL1 (.sl true 0 []) (.int .i64 0) (.ptr m 0) (.sl true 0 []) (.sl z l.length (evs l)) (.int .i64 (l.length : Nat)) (.int .i64 0),G1⟩ = _ := e1
 cases ha : l.all xDl with
 | false =>
  rw [ha] at e1'
  simp only [Bool.false_eq_true,if_false] at e1' ⊢
  rw [yAS,a35,xAb]
  simp (disch := omega) only [WB,Nat.reduceAdd,Nat.reduceSub,h19,↓reduceIte,hl',xHC,e1']
 | true =>
  have g2 := g1 ha
  rw [ha] at e1'
  simp only [if_true,List.nil_append] at e1' g2 ⊢
  have hvl := xJu fs l (zr (nT fs))
  generalize vL fs l (zr (nT fs)) = V at *
  rcases g2 with ⟨rfl,rfl⟩ | ⟨o,rfl,go,hne,-,-,-⟩
  ·have hl0 : l = [] := List.eq_nil_of_length_eq_zero (by simpa using hvl.symm)
   have hr : AV.sl l.isEmpty l.length (bls []) = .sl true 0 [] := by subst hl0; rfl
   rw [hr]
   clear hvl
   rw [yAS,a35,xAb]
   simp (disch := omega) only [WB,Nat.reduceAdd,Nat.reduceSub,h19,↓reduceIte,hl',xHC,e1']
  ·have hbl := xC9 V
   have hbt := xPe V
   have hfr := fun d H => xTq d H V
   rw [hvl] at hbt hbl e1'
   have hem : l.isEmpty = false := by
    cases l with
    | nil => simp at hvl; exact absurd hvl hne
    | cons _ _ => rfl
   rw [hem]
   generalize bls V = L1 at *
   rw [yAS,a35,xAb]
   simp (disch := omega) only [WB,Nat.reduceAdd,Nat.reduceSub,h19,↓reduceIte,hl',xHC,e1',xBS,go,hbt,hfr]
end
theorem xPg {l : List Nat} (h : l.Nodup) : ∀ i j,i < j → j < l.length → l[i]? ≠ l[j]? := by
 intro i j hij hj e
 unfold List.Nodup at h
 rw [List.pairwise_iff_getElem] at h
 rw [List.getElem?_eq_getElem (by omega : i < l.length),List.getElem?_eq_getElem hj] at e
 exact h i j (by omega) hj hij (Option.some.inj e)
theorem xVb {l : List Nat} (h : ∀ i j,i < j → j < l.length → l[i]? ≠ l[j]?) : l.Nodup := by
 unfold List.Nodup
 rw [List.pairwise_iff_getElem]
 intro i j hi hj hij e
 exact h i j hij hj (by rw [List.getElem?_eq_getElem hi,List.getElem?_eq_getElem hj,e])
def xQo (k : Nat) (l : List Int) : AV := .own (l.length == 0) k 0 l.length 1
def xGv (l : List Int) : Blk := .cells false (l.length == 0) (xAJ l)
abbrev ons {α : Type} (c : α → Nat → List AV) (lo : List (α × Nat)) : List AV := rows (fun p => c p.1 p.2) lo
structure Ow {α : Type} (c : α → Nat → List AV) (ar : α → List Int) (G : Heap) (o : Nat) (lo : List (α × Nat)) : Prop where
 go : G[o]? = some (.cells false false (ons c lo))
 ne : lo ≠ []
 bl : ∀ p ∈ lo,p.2 ≠ o ∧ G[p.2]? = some (xGv (ar p.1))
 nd : (lo.map (·.2)).Nodup
section
variable {α : Type} {c : α → Nat → List AV} {ar : α → List Int} {G : Heap} {o : Nat} {lo : List (α × Nat)}
theorem Ow.one (x y : Blk) (a : α) : Ow c ar (G ++ [x,xGv (ar a),y,.cells false false (c a (G.length + 1))]) (G.length + 3) [(a,G.length + 1)] where
 go := by rw [List.getElem?_append_right (by omega),show G.length + 3 - G.length = 3 by omega]; simp [rows]
 ne := by simp
 bl p hp := by
  rw [List.mem_singleton] at hp
  subst hp
  refine ⟨by show G.length + 1 ≠ G.length + 3; omega,?_⟩
  show (G ++ _)[G.length + 1]? = _
  rw [List.getElem?_append_right (by omega),show G.length + 1 - G.length = 1 by omega]; rfl
 nd := by simp
theorem Ow.snoc (h : Ow c ar G o lo) (x y : Blk) (a : α) : Ow c ar (G.set o .dead ++ [x,xGv (ar a),y,.cells false false (ons c (lo ++ [(a,G.length + 1)]))]) (G.length + 3) (lo ++ [(a,G.length + 1)]) where
 go := by rw [List.getElem?_append_right (by simp),List.length_set,show G.length + 3 - G.length = 3 by omega]; rfl
 ne := by simp
 bl p hp := by
  rcases List.mem_append.1 hp with hp | hp
  ·obtain ⟨h1,h2⟩ := h.bl p hp
   have l2 := xBs h2
   exact ⟨by omega,by rw [xA3 (by simpa using l2),xB2 (Ne.symm h1)]; exact h2⟩
  ·rw [List.mem_singleton] at hp
   subst hp
   refine ⟨by show G.length + 1 ≠ G.length + 3; omega,?_⟩
   show (G.set o .dead ++ _)[G.length + 1]? = _
   rw [List.getElem?_append_right (by simp),List.length_set,show G.length + 1 - G.length = 1 by omega]; rfl
 nd := by
  rw [List.map_append,List.nodup_append]
  refine ⟨h.nd,by simp,?_⟩
  intro a1 ha b hb
  obtain ⟨p,hp,rfl⟩ := List.mem_map.1 ha
  have := xBs (h.bl p hp).2
  simp at hb
  omega
theorem xTr (lo : List (α × Nat)) (a : α) (k : Nat) : ons c lo ++ c a k = ons c (lo ++ [(a,k)]) := by
 show rows _ lo ++ _ = rows _ (lo ++ [(a,k)])
 rw [← xVp]
 simp [rows]
theorem Ow.frz (h : Ow c ar G o lo) {e : α → List AV} (d : Nat) (hc : ∀ p ∈ lo,(c p.1 p.2).mapM (frz (d + 1) G) = some (e p.1)) : (ons c lo).mapM (frz (d + 1) G) = some (rows e (lo.map (·.1))) := by
 have hb := h.bl
 clear h
 induction lo with
 | nil => rfl
 | cons p lo ih =>
  show (c p.1 p.2 ++ ons c lo).mapM _ = some (e p.1 ++ rows e (lo.map (·.1)))
  exact mapM_append' (hc p List.mem_cons_self) (ih (fun q hq => hc q (List.mem_cons_of_mem _ hq)) (fun q hq => hb q (List.mem_cons_of_mem _ hq)))
theorem xPh {k : Nat} {l : List Int} (d : Nat) (h : G[k]? = some (xGv l)) : Go.Abs.frz (d + 1) G (xQo k l) = some (.sl (l.length == 0) l.length (xAJ l)) := by
 unfold xQo
 rw [xBS,h]
 unfold xGv
 rw [xD3 (by rw [xBy]; omega)]
 have : List.take (l.length * 1) (List.drop 0 (xAJ l)) = xAJ l := by rw [List.drop_zero,Nat.mul_one,List.take_of_length_le (by rw [xBy]; omega)]
 rw [this,xGx]
 rfl
theorem Ow.put (h : Ow c ar G o lo) {i : Nat} {p : α × Nat} (hp : lo[i]? = some p) (a' : α) (hl : (ar a').length = (ar p.1).length) (hc : c a' p.2 = c p.1 p.2) : Ow c ar (G.set p.2 (xGv (ar a'))) o (lo.set i (a',p.2)) := by
 obtain ⟨hi,hpe⟩ := List.getElem?_eq_some_iff.1 hp
 have hm : p ∈ lo := by rw [← hpe]; exact List.getElem_mem hi
 obtain ⟨b1,b2⟩ := h.bl p hm
 refine ⟨?_,?_,?_,?_⟩
 ·rw [xB2 b1,h.go]
  congr 2
  show List.flatten _ = List.flatten _
  congr 1
  rw [List.map_set]
  have : (lo.map fun p => c p.1 p.2)[i]? = some (c a' p.2) := by rw [List.getElem?_map,hp]; simp [hc]
  obtain ⟨hk,hx⟩ := List.getElem?_eq_some_iff.1 this
  show _ = List.set _ i (c a' p.2)
  rw [← hx,List.set_getElem_self]
 ·intro q; have := congrArg List.length q; simp at this; exact h.ne this
 ·intro q hq
  rw [List.mem_iff_getElem?] at hq
  obtain ⟨j,hj⟩ := hq
  rw [List.getElem?_set] at hj
  by_cases c1 : i = j
  ·rw [if_pos c1,if_pos (by omega)] at hj
   cases hj
   exact ⟨b1,xFa (xBs b2)⟩
  ·rw [if_neg c1] at hj
   obtain ⟨hj1,hj2⟩ := List.getElem?_eq_some_iff.1 hj
   have hqm : q ∈ lo := by rw [← hj2]; exact List.getElem_mem hj1
   obtain ⟨q1,q2⟩ := h.bl q hqm
   refine ⟨q1,?_⟩
   have hne : q.2 ≠ p.2 := by
    intro e
    have hnd := xPg h.nd
    rcases Nat.lt_or_gt_of_ne c1 with hlt | hlt
    ·exact hnd i j hlt (by simpa using hj1) (by rw [List.getElem?_map,List.getElem?_map,hp,hj]; simp [e])
    ·exact hnd j i hlt (by simpa using hi) (by rw [List.getElem?_map,List.getElem?_map,hp,hj]; simp [e])
   rw [xB2 (Ne.symm hne)]; exact q2
 ·rw [List.map_set]
  have : (lo.map (·.2))[i]? = some p.2 := by rw [List.getElem?_map,hp]; rfl
  obtain ⟨hk,hx⟩ := List.getElem?_eq_some_iff.1 this
  show (List.set _ i p.2).Nodup
  rw [← hx,List.set_getElem_self]
  exact h.nd
end
def xBn (n : Nd) (k : Nat) : List AV := [.int .u8 (n.op : Nat),.int .i64 n.name,xQo k n.args,.int .i64 n.x,.int .i64 n.a,.int .i64 n.b]
def evO (e : Ev) (k : Nat) : List AV := [.int .i64 e.name,xQo k e.args]
theorem isE {α : Type} (l : List α) : (l.length == 0) = l.isEmpty := by cases l <;> rfl
theorem xTs {n : Nd} {k d : Nat} {G : Heap} (hw : n.z = n.args.isEmpty) (h : G[k]? = some (xGv n.args)) : (xBn n k).mapM (frz (d + 1) G) = some n.c := by
 unfold xBn Nd.c xBL
 simp only [List.mapM_cons,xCF,xPh d h,List.mapM_nil,hw,isE]
 rfl
theorem xXR {e : Ev} {k d : Nat} {G : Heap} (hw : e.z = e.args.isEmpty) (h : G[k]? = some (xGv e.args)) : (evO e k).mapM (frz (d + 1) G) = some (evC e) := by
 unfold evO evC xBL
 simp only [List.mapM_cons,xCF,xPh d h,List.mapM_nil,hw,isE]
 rfl
theorem xDa {α : Type} {c : α → Nat → List AV} {w : Nat} (hw : ∀ a k,(c a k).length = w) (lo : List (α × Nat)) : (ons c lo).length = lo.length * w := xDd (fun p => hw p.1 p.2) lo
theorem xD4 {α : Type} {c : α → Nat → List AV} {w : Nat} (hw : ∀ a k,(c a k).length = w) (lo : List (α × Nat)) : List.take (lo.length * w) (ons c lo) = ons c lo := by rw [← xDa hw,List.take_length]
theorem WZ : type_of% (I (I (I @WL @xAd) (I @xAf @xAe)) (I @xCG @xC9)) := I (I (I @WL @xAd) (I @xAf @xAe)) (I @xCG @xC9)
set_option linter.unusedSimpArgs false
set_option linter.unusedVariables false
def xCj (l : List Int) : List Int := l.take 4
def xGj (n : Nd) : Nd := { n with z := (xCj n.args).isEmpty,args := xCj n.args }
def xEz (fs : List Nd) : List Nd := (fs.take 70).map xGj
theorem xXS (a b : List Nd) : nds a ++ nds b = nds (a ++ b) := by simp [rows]
theorem xTt (z : Bool) {l : List Int} (hl : l.length ≤ 1000) : xCv L 49 [.sl z l.length (xAJ l)] = some (.own (l.length == 0) 0 0 l.length 1,[.cells false (l.length == 0) (xAJ l)]) := by
 have htk : List.take l.length l = l := List.take_length
 rw [xLJ,yC3,a49,xAo]
 simp (maxSteps := 30000000) (disch := first | assumption | omega | (simp only [WZ,AV.isCell] <;> omega) | rfl | decide) only [WB,Nat.reduceSub,WP,↓reduceIte]
theorem xBv (n : Nd) (k : Nat) : (xBn n k).length = 6 := rfl
theorem xFM (e : Ev) (k : Nat) : (evO e k).length = 2 := rfl
def GnO (G : Heap) (v : AV) (lo : List (Nd × Nat)) : Prop := (lo = [] ∧ v = .sl true 0 []) ∨ ∃ o,v = .own false o 0 lo.length 6 ∧ Ow xBn Nd.args G o lo
section
variable {fs : List Nd} {z : Bool}
abbrev F18 (z : Bool) (fs : List Nd) (v : AV) (i : Nat) : List AV := xI1 (.sl z fs.length (nds fs)) v (.int .i64 (i : Nat))
set_option maxHeartbeats 4000000 in
theorem xWo : ∀ k i,i + k = min fs.length 70 → ∀ (G : Heap) (v : AV) (lo : List (Nd × Nat)),lo.length = i → GnO G v lo → ∃ (G' : Heap) (v' : AV) (lo' : List (Nd × Nat)),
  L.loop xHx xQc ⟨F18 z fs v i,G⟩ = some (.exit 0,⟨F18 z fs v' (min fs.length 70),G'⟩) ∧ GnO G' v' lo' ∧ lo'.map (·.1) = lo.map (·.1) ++ ((fs.drop i).take k).map xGj := by
 intro k
 induction k with
 | zero =>
  intro i hi G v lo ho hg
  obtain rfl : i = min fs.length 70 := by omega
  refine ⟨G,v,lo,?_,hg,by simp⟩
  by_cases c : fs.length < 70
  ·have c1 : min fs.length 70 = fs.length := by omega
   rw [c1,xLP]
   simp (maxSteps := 30000000) (disch := first | assumption | omega | (simp only [WZ,AV.isCell] <;> omega) | rfl | decide) only [xHw,WB,↓reduceIte,xE0]
  ·have c1 : min fs.length 70 = 70 := by omega
   rw [c1]
   by_cases c2 : fs.length = 70
   ·have c3 : ¬ ((70 : Int) < (fs.length : Nat)) := by omega
    rw [xLP]
    simp (maxSteps := 30000000) (disch := first | assumption | omega | (simp only [WZ,AV.isCell] <;> omega) | rfl | decide) only [xHw,WB,c3,↓reduceIte,xE0]
    rfl
   ·have c3 : ((70 : Int) < (fs.length : Nat)) := by omega
    rw [xLP]
    simp (maxSteps := 30000000) (disch := first | assumption | omega | (simp only [WZ,AV.isCell] <;> omega) | rfl | decide) only [xHw,WB,c3,↓reduceIte,xE0]
    rfl
 | succ k ih =>
  intro i hi G v lo ho hg
  have hlt : i < fs.length := by omega
  have hltI : ((i : Nat) : Int) < (fs.length : Nat) := by omega
  have hlt70 : ((i : Nat) : Int) < 70 := by omega
  have em : ((fs.drop i).take (k + 1)).map xGj = xGj (fs.getD i nd0) :: ((fs.drop (i + 1)).take k).map xGj := by
   rw [List.drop_eq_getElem_cons hlt,List.getD_eq_getElem?_getD,List.getElem?_eq_getElem hlt]
   rfl
  rw [em]
  generalize hn : fs.getD i nd0 = n at *
  have hnv : xBL n.z n.args = .sl n.z n.args.length (xAJ n.args) := rfl
  have h49 := xTt n.z (l := xCj n.args) (by simp [xCj]; omega)
  have hcl : (xCj n.args).length = min n.args.length 4 := by simp [xCj,Nat.min_comm]
  have hmin : min ((n.args.length : Nat) : Int) 4 = ((xCj n.args).length : Nat) := by rw [hcl]; omega
  have hbd : xA4 n.args.length none (some (.int .i64 ((xCj n.args).length : Nat))) none = some (0,(xCj n.args).length) := by
   rw [xDL (Int.natCast_nonneg _) (by rw [hcl]; omega)]
   simp
  have htk : xAJ (List.take (xCj n.args).length n.args) = xAJ (xCj n.args) := by
   congr 1
   rw [hcl]
   unfold xCj
   by_cases c : n.args.length ≤ 4
   ·rw [Nat.min_eq_left c,List.take_of_length_le (Nat.le_refl _),List.take_of_length_le c]
   ·rw [Nat.min_eq_right (by omega)]
  have hC : ∀ k,xBn (xGj n) k = [.int .u8 (n.op : Nat),.int .i64 n.name,.own ((xCj n.args).length == 0) k 0 (xCj n.args).length 1,.int .i64 n.x,.int .i64 n.a,.int .i64 n.b] := fun _ => rfl
  have hBk : xGv (xGj n).args = .cells false ((xCj n.args).length == 0) (xAJ (xCj n.args)) := rfl
  rcases hg with ⟨rfl,rfl⟩ | ⟨o,rfl,hw⟩
  ·obtain ⟨G',v',lo',e1,g1,m1⟩ := ih (i + 1) (by omega) (G ++ [.cells false false (xBn (xGj n) (G.length + 1)),xGv (xGj n).args,.cells false false (xBn (xGj n) (G.length + 1)),.cells false false (xBn (xGj n) (G.length + 1))]) (.own false (G.length + 3) 0 1 6) [(xGj n,G.length + 1)] (by simp at ho ⊢; omega)
    (.inr ⟨G.length + 3,rfl,Ow.one _ _ _⟩)
   refine ⟨G',v',lo',?_,g1,by simpa using m1⟩
   rw [hC,hBk] at e1
   generalize xCj n.args = l4 at *
   rw [xLP]
   simp (maxSteps := 30000000) (disch := first | assumption | omega | (simp only [WZ,AV.isCell] <;> omega) | rfl | decide) only [xHw,WB,hltI,↓reduceIte,hlt70,xBe,Nd.c,hn,hnv,AV.cells,AV.isCell,Nat.reduceAdd,xCS,xEA,hmin,hbd,W2,htk,WP,h49,xBM,xES,xCa,Nat.reduceMul,xKm,Nat.reduceBEq,xE0,e1]
  ·have lob := xBs hw.go
   obtain ⟨G',v',lo',e1,g1,m1⟩ := ih (i + 1) (by omega) (G.set o .dead ++ [.cells false false (xBn (xGj n) (G.length + 1)),xGv (xGj n).args,.cells false false (xBn (xGj n) (G.length + 1)),.cells false false (ons xBn (lo ++ [(xGj n,G.length + 1)]))]) (.own false (G.length + 3) 0 (lo.length + 1) 6) (lo ++ [(xGj n,G.length + 1)]) (by simp; omega)
    (.inr ⟨G.length + 3,by simp,hw.snoc _ _ _⟩)
   refine ⟨G',v',lo',?_,g1,by simpa using m1⟩
   have hN : ons xBn lo ++ xBn (xGj n) (G.length + 1) = ons xBn (lo ++ [(xGj n,G.length + 1)]) := xTr _ _ _
   rw [hC,hBk] at e1
   rw [hC] at hN
   have hnl := xDa xBv lo
   have hnt := xD4 xBv lo
   have go := hw.go
   clear hw
   generalize ons xBn (lo ++ [(xGj n,G.length + 1)]) = L2 at *
   generalize ons xBn lo = L1 at *
   generalize xCj n.args = l4 at *
   have hi70 : i ≤ 70 := by omega
   rw [ho] at *
   rw [xLP]
   simp (maxSteps := 30000000) (disch := first | assumption | omega | (simp only [WZ,AV.isCell] <;> omega) | rfl | decide) only [xHw,WB,hltI,↓reduceIte,hlt70,xBe,Nd.c,hn,hnv,AV.cells,AV.isCell,Nat.reduceAdd,xCS,xEA,hmin,hbd,W2,htk,WP,h49,xBM,xES,xCa,Nat.reduceMul,xKm,xA3,go,Nat.reduceBEq,xMA,hnt,hN,xE0,e1]
theorem xTu : ((fs.drop 0).take (min fs.length 70)).map xGj = xEz fs := by
 unfold xEz
 rw [List.drop_zero]
 congr 1
 by_cases c : fs.length ≤ 70
 ·rw [Nat.min_eq_left c,List.take_of_length_le (Nat.le_refl _),List.take_of_length_le c]
 ·rw [Nat.min_eq_right (by omega)]
theorem xZ9 (z : Bool) (fs : List Nd) : ∃ (G' : Heap) (v' : AV) (lo' : List (Nd × Nat)),xB5 L 18 [.sl z fs.length (nds fs)] = some (v',G') ∧ GnO G' v' lo' ∧ lo'.map (·.1) = xEz fs := by
 obtain ⟨G',v',lo',e1,g1,m1⟩ := xWo (z := z) (fs := fs) (min fs.length 70) 0 (by omega) [] (.sl true 0 []) [] rfl (.inl ⟨rfl,rfl⟩)
 have m1 : lo'.map (·.1) = xEz fs := by rw [m1,xTu]; rfl
 have e1' : L.loop xHx xQc ⟨xI1 (.sl z fs.length (nds fs)) (.sl true 0 []) (.int .i64 0),[]⟩ = _ := e1
 refine ⟨G',v',lo',xLM ?_ ?_,g1,m1⟩
 ·rcases g1 with ⟨rfl,rfl⟩ | ⟨o,rfl,hw⟩
  ·rw [yCr,a18,xAo]
   simp (maxSteps := 30000000) (disch := first | assumption | omega | (simp only [WZ,AV.isCell] <;> omega) | rfl | decide) only [WB,Nat.reduceSub,xE0,e1',↓reduceIte]
  ·rw [yCr,a18,xAo]
   simp (maxSteps := 30000000) (disch := first | assumption | omega | (simp only [WZ,AV.isCell] <;> omega) | rfl | decide) only [WB,Nat.reduceSub,xE0,e1',↓reduceIte]
 ·rcases g1 with ⟨rfl,rfl⟩ | ⟨o,rfl,hw⟩ <;> rfl
theorem GnO.wn {G : Heap} {o : Nat} {lo : List (Nd × Nat)} {fs : List Nd} (hw : Ow xBn Nd.args G o lo) (hz : ∀ n ∈ fs,n.z = n.args.isEmpty) (m1 : lo.map (·.1) = fs) (d : Nat) : (ons xBn lo).mapM (frz (d + 1) G) = some (nds fs) := by
 rw [hw.frz (e := Nd.c) d fun p hp => xTs (hz _ (by rw [← m1]; exact List.mem_map.2 ⟨p,hp,rfl⟩)) (hw.bl p hp).2,m1]
theorem yAa (fs : List Nd) : ∀ n ∈ xEz fs,n.z = n.args.isEmpty := by
 intro n hn
 unfold xEz at hn
 obtain ⟨m,-,rfl⟩ := List.mem_map.1 hn
 rfl
set_option maxHeartbeats 4000000 in
theorem yBU (z : Bool) (fs : List Nd) : L.pcall 18 [.sl z fs.length (nds fs)] = some (.sl (xEz fs).isEmpty (xEz fs).length (nds (xEz fs))) := by
 obtain ⟨G',v',lo',e1,g1,m1⟩ := xWo (z := z) (fs := fs) (min fs.length 70) 0 (by omega) [] (.sl true 0 []) [] rfl (.inl ⟨rfl,rfl⟩)
 have m1 : lo'.map (·.1) = xEz fs := by rw [m1,xTu]; rfl
 have e1' : L.loop xHx xQc ⟨xI1 (.sl z fs.length (nds fs)) (.sl true 0 []) (.int .i64 0),[]⟩ = _ := e1
 have hz := yAa fs
 have hml : lo'.length = (xEz fs).length := by rw [← m1,List.length_map]
 generalize xEz fs = V at *
 rcases g1 with ⟨rfl,rfl⟩ | ⟨o,rfl,hw⟩
 ·have m1 : [] = V := m1
  subst m1
  show _ = some (AV.sl true 0 [])
  rw [yCq,a18,xAb]
  simp (maxSteps := 30000000) (disch := first | assumption | omega | (simp only [WZ,AV.isCell] <;> omega) | rfl | decide) only [WB,Nat.reduceSub,xE0,e1',↓reduceIte]
 ·have hem : V.isEmpty = false := by
   cases V with
   | nil => exact absurd (List.map_eq_nil_iff.1 m1) hw.ne
   | cons _ _ => rfl
  have hfr := GnO.wn hw hz m1
  have hnl := xDa xBv lo'
  have hnt := xD4 xBv lo'
  have go := hw.go
  clear hw
  rw [hem]
  rw [hml] at *
  generalize nds V = L2 at *
  generalize ons xBn lo' = L1 at *
  have hf5 : L1.mapM (frz 5 G') = some L2 := hfr 4
  rw [yCq,a18,xAb]
  simp (maxSteps := 30000000) (disch := first | assumption | omega | (simp only [WZ,AV.isCell] <;> omega) | rfl | decide) only [WB,Nat.reduceSub,xE0,e1',↓reduceIte,xBS,go,hnt,hf5]
end
def tn : Nd := ⟨1,0,true,[],0,0,0⟩
theorem yAb : chk [tn] = 0 := by decide +kernel
theorem yBV : ∀ j,j < [tn].length → WN ([tn].getD j nd0) := by
 intro j hj
 obtain rfl : j = 0 := by simp at hj; omega
 rfl
def bL (e : Ev) : List Bool := vL [tn] [e] (zr (nT [tn]))
theorem yAc (z : Bool) (e : Ev) : L.pcall 35 [.sl false 1 [.int .u8 1,.int .i64 0,.sl true 0 [],.int .i64 0,.int .i64 0,.int .i64 0],.sl z 1 (evC e)] =
  some (if xDl e = true then .tup [.sl false 1 (bls (bL e)),.int .i64 0] else .tup [.sl true 0 [],.int .i64 1]) := by
 have h := xPf (fs := [tn]) yAb yBV z [e] (by simp)
 have h1 : evs [e] = evC e := by simp [rows]
 rw [h1] at h
 have h2 : [e].all xDl = xDl e := by simp
 rw [h2] at h
 exact h
def xCc (n : Nat) (l : List Ev) : List Ev := (l.filter xDl).take n
def Ge (G : Heap) (v : AV) (l : List Ev) : Prop := (l = [] ∧ v = .sl true 0 []) ∨ ∃ o,v = .own false o 0 l.length 2 ∧ G[o]? = some (.cells false false (evs l)) ∧ l ≠ []
theorem xXT (a b : List Ev) : evs a ++ evs b = evs (a ++ b) := by simp [rows]
theorem xKh (l : List Ev) : List.take (l.length * 2) (evs l) = evs l := List.take_of_length_le (by rw [xCG]; omega)
theorem xTv (d : Nat) (H : Heap) : ∀ l : List Ev,(evs l).mapM (frz d H) = some (evs l)
 | [] => rfl
 | e :: l => by
  have h1 : (evC e).mapM (frz d H) = some (evC e) := by
   unfold evC xBL
   simp [List.mapM_cons,xCF,xEZ]
  exact mapM_append' h1 (xTv d H l)
theorem xNy (d : Nat) (H : Heap) : ∀ l : List Ev,(evs l).flatMap (bor d H) = []
 | [] => rfl
 | e :: l => by
  show (evC e ++ evs l).flatMap (bor d H) = []
  rw [List.flatMap_append,xNy d H l]
  simp [evC,xBL,xJZ,xSj]
theorem yCN {G : Heap} {k : Nat} {f : Blk → Blk} {b : Blk} (h : G[k]? = some b) : (List.modify G k f)[k]? = some (f b) := by
 rw [List.getElem?_modify_eq,h]; rfl
theorem fzB (x z : Bool) (cs : List AV) : xEo (.cells x z cs) = .cells true z cs := rfl
section
variable {l : List Ev} {z : Bool} {f : AV} {n : Nat}
abbrev F33 (f : AV) (z : Bool) (l : List Ev) (n : Nat) (v : AV) (i : Nat) : List AV := xLY f (.sl z l.length (evs l)) (.int .i64 (n : Nat)) v (.int .i64 (i : Nat))
set_option maxHeartbeats 4000000 in
theorem yAd (hl : l.length ≤ 9223372036854775807) (hn12 : n ≤ 64) : ∀ k i,i + k = l.length → ∀ (G : Heap) (v : AV) (out : List Ev),out.length ≤ n → Ge G v out → ∃ (G' : Heap) (v' : AV) (i' : Nat),
  L.loop xI8 xSE ⟨F33 f z l n v i,G⟩ = some (.exit 0,⟨F33 f z l n v' i',G'⟩) ∧ Ge G' v' (out ++ xCc (n - out.length) (l.drop i)) := by
 intro k
 induction k with
 | zero =>
  intro i hi G v out ho hg
  obtain rfl : i = l.length := by omega
  refine ⟨G,v,l.length,?_,by simpa [xCc] using hg⟩
  rw [xHz]
  simp (maxSteps := 30000000) (disch := first | assumption | omega | (simp only [WZ,AV.isCell] <;> omega) | rfl | decide) only [xE1,WB,↓reduceIte,xDM]
 | succ k ih =>
  intro i hi G v out ho hg
  have hlt : i < l.length := by omega
  have hltI : ((i : Nat) : Int) < (l.length : Nat) := by omega
  by_cases hfull : out.length = n
  ·refine ⟨G,v,i,?_,by simpa [hfull,xCc] using hg⟩
   rcases hg with ⟨rfl,rfl⟩ | ⟨o,rfl,go,hne⟩
   ·have hn0 : ¬ (0 : Int) < (n : Nat) := by simp at hfull; omega
    rw [xHz]
    simp (maxSteps := 30000000) (disch := first | assumption | omega | (simp only [WZ,AV.isCell] <;> omega) | rfl | decide) only [xE1,WB,hltI,↓reduceIte,hn0,xDM]
   ·rw [hfull]
    rw [xHz]
    simp (maxSteps := 30000000) (disch := first | assumption | omega | (simp only [WZ,AV.isCell] <;> omega) | rfl | decide) only [xE1,WB,hltI,↓reduceIte,xDM]
  have em : xCc (n - out.length) (l.drop i) = if xDl (l.getD i ev0) = true then l.getD i ev0 :: xCc (n - out.length - 1) (l.drop (i + 1)) else xCc (n - out.length) (l.drop (i + 1)) := by
   rw [List.drop_eq_getElem_cons hlt,List.getD_eq_getElem?_getD,List.getElem?_eq_getElem hlt]
   unfold xCc
   rw [List.filter_cons]
   simp only [Option.getD_some]
   split
   ·rw [show n - out.length = (n - out.length - 1) + 1 by omega,List.take_succ_cons]; simp
   ·rfl
  rw [em]
  have hat := xJt hlt
  generalize hN : l.getD i ev0 = e at *
  have hev : xBL e.z e.args = .sl e.z e.args.length (xAJ e.args) := rfl
  have h35 := yAc z e
  have hbd : xA4 l.length (some (.int .i64 (i : Nat))) (some (.int .i64 ((i + 1 : Nat) : Int))) none = some (i,i + 1) := by
   rw [xR5 (Int.natCast_nonneg _) (by omega) (by omega)]; rfl
  have hsub : i + 1 - i = 1 := by omega
  have hat' : List.take (1 * 2) (List.drop (i * 2) (evs l)) = evC e := hat
  unfold evC at h35 hat hat'
  rw [hev] at h35 hat hat'
  rcases hg with ⟨rfl,rfl⟩ | ⟨o,rfl,go,hne⟩
  ·have hn0 : (0 : Int) < (n : Nat) := by simp at hfull; omega
   cases hk : xDl e with
   | false =>
    rw [hk] at h35
    simp only [Bool.false_eq_true,if_false] at h35 ⊢
    obtain ⟨G',v',i',e1,g1⟩ := ih (i + 1) (by omega) G (.sl true 0 []) [] (by simp) (.inl ⟨rfl,rfl⟩)
    refine ⟨G',v',i',?_,g1⟩
    rw [xHz]
    simp (maxSteps := 30000000) (disch := first | assumption | omega | (simp only [WZ,AV.isCell] <;> omega) | rfl | decide) only [xE1,WB,hltI,↓reduceIte,hn0,AV.cells,Nat.reduceAdd,Nat.reduceLeDiff,AV.isCell,Nat.reduceMul,hbd,hsub,hat',h35,xAQ,xAv,Int.reduceEq,xDM,e1]
   | true =>
    rw [hk] at h35
    simp only [if_true] at h35 ⊢
    obtain ⟨G',v',i',e1,g1⟩ := ih (i + 1) (by omega) (G ++ [.cells false false (evs [e])]) (.own false G.length 0 1 2) [e] (by simp at hfull ⊢; omega)
     (.inr ⟨G.length,rfl,by rw [List.getElem?_append_right (Nat.le_refl _),Nat.sub_self]; rfl,by simp⟩)
    refine ⟨G',v',i',?_,by simpa using g1⟩
    have h1 : evs [e] = [.int .i64 e.name,.sl e.z e.args.length (xAJ e.args)] := by rw [← hev]; simp [rows,evC]
    rw [h1] at e1
    rw [xHz]
    simp (maxSteps := 30000000) (disch := first | assumption | omega | (simp only [WZ,AV.isCell] <;> omega) | rfl | decide) only [xE1,WB,hltI,↓reduceIte,hn0,AV.cells,Nat.reduceAdd,Nat.reduceLeDiff,AV.isCell,Nat.reduceMul,hbd,hsub,hat',h35,xAQ,xAv,Nat.reduceBEq,xDM,e1]
  ·have hn0 : ((out.length : Nat) : Int) < (n : Nat) := by omega
   have lo := xBs go
   cases hk : xDl e with
   | false =>
    rw [hk] at h35
    simp only [Bool.false_eq_true,if_false] at h35 ⊢
    obtain ⟨G',v',i',e1,g1⟩ := ih (i + 1) (by omega) G (.own false o 0 out.length 2) out ho (.inr ⟨o,rfl,go,hne⟩)
    refine ⟨G',v',i',?_,g1⟩
    rw [xHz]
    simp (maxSteps := 30000000) (disch := first | assumption | omega | (simp only [WZ,AV.isCell] <;> omega) | rfl | decide) only [xE1,WB,hltI,↓reduceIte,hn0,AV.cells,Nat.reduceAdd,Nat.reduceLeDiff,AV.isCell,Nat.reduceMul,hbd,hsub,hat',h35,xAQ,xAv,Int.reduceEq,xDM,e1]
   | true =>
    rw [hk] at h35
    simp only [if_true] at h35 ⊢
    obtain ⟨G',v',i',e1,g1⟩ := ih (i + 1) (by omega) (G.set o .dead ++ [.cells false false (evs (out ++ [e]))]) (.own false G.length 0 (out.length + 1) 2) (out ++ [e]) (by simp; omega)
     (.inr ⟨G.length,by simp,by rw [List.getElem?_append_right (by simp),List.length_set,Nat.sub_self]; rfl,by simp⟩)
    refine ⟨G',v',i',?_,?_⟩
    ·have h1 : evs out ++ [.int .i64 e.name,.sl e.z e.args.length (xAJ e.args)] = evs (out ++ [e]) := by rw [← hev,← xXT]; simp [rows,evC]
     have hnl := xCG out
     have hnt := xKh out
     generalize evs (out ++ [e]) = L2 at *
     generalize evs out = L1 at *
     rw [xHz]
     simp (maxSteps := 30000000) (disch := first | assumption | omega | (simp only [WZ,AV.isCell] <;> omega) | rfl | decide) only [xE1,WB,hltI,↓reduceIte,hn0,AV.cells,Nat.reduceAdd,Nat.reduceLeDiff,AV.isCell,Nat.reduceMul,hbd,hsub,hat',h35,xAQ,xAv,go,Nat.reduceBEq,hnt,h1,xDM,e1]
    ·have h2 : n - (out ++ [e]).length = n - out.length - 1 := by simp; omega
     rw [h2] at g1
     simpa using g1
theorem xTw (n : Nat) (l : List Ev) : (xCc n l).all xDl = true := by
 rw [List.all_eq_true]
 intro x hx
 exact (List.mem_filter.1 (List.mem_of_mem_take hx)).2
theorem xGp (n : Nat) (l : List Ev) : (xCc n l).length ≤ n := by simp [xCc]; omega
set_option maxHeartbeats 4000000 in
theorem xQi {fs : List Nd} (hw : ∀ j,j < fs.length → WN (fs.getD j nd0)) (hlen : fs.length < 1000) (fz : Bool) (hfz : fs.length ≠ 0 → fz = false) (z : Bool) (l : List Ev) (hl : l.length ≤ 9223372036854775807) :
  L.pcall 33 [.sl fz fs.length (nds fs),.sl z l.length (evs l),.int .i64 12] =
   some (.tup [if chk fs = 0 then .sl (xCc 12 l).isEmpty (xCc 12 l).length (bls (vL fs (xCc 12 l) (zr (nT fs)))) else .sl true 0 [],
    .sl (xCc 12 l).isEmpty (xCc 12 l).length (evs (xCc 12 l)),.bool (decide (chk fs = 0))]) := by
 obtain ⟨G',v',i',e1,g1⟩ := yAd (f := .sl fz fs.length (nds fs)) (z := z) (n := 12) hl (by omega) l.length 0 (by omega) [] (.sl true 0 []) [] (by simp) (.inl ⟨rfl,rfl⟩)
 rw [List.drop_zero,List.nil_append,List.length_nil,Nat.sub_zero] at g1
 have e1' : L.loop xI8 xSE ⟨xLY (.sl fz fs.length (nds fs)) (.sl z l.length (evs l)) (.int .i64 12) (.sl true 0 []) (.int .i64 0),[]⟩ = _ := e1
 have hok := xTw 12 l
 have hgl := xGp 12 l
 generalize xCc 12 l = V at *
 have hfr := fun d H => xTv d H V
 have hV : G'.length = G'.length := rfl
 by_cases hc : chk fs = 0
 ·obtain ⟨h0,-,-⟩ := xNv hc
  obtain rfl := hfz (by omega)
  have h35 := xPf hc hw V.isEmpty V (by omega)
  have hbl := xJu fs V (zr (nT fs))
  rw [if_pos hok] at h35
  rw [if_pos hc,hc]
  generalize vL fs V (zr (nT fs)) = W at *
  rcases g1 with ⟨rfl,rfl⟩ | ⟨o,rfl,go,hne⟩
  ·have hW : W = [] := List.eq_nil_of_length_eq_zero hbl
   subst hW
   have h35' : L.pcall 35 [.sl false fs.length (nds fs),.sl true 0 []] = some (.tup [.sl true 0 [],.int .i64 0]) := h35
   show _ = some (AV.tup [.sl true 0 [],.sl true 0 [],.bool true])
   rw [yAR,a33,xAb]
   simp (disch := omega) only [WB,Nat.reduceAdd,Nat.reduceSub,xDM,e1',↓reduceIte,h35',xAQ,xAv]
  ·have hnl := xCG V
   have hnt := xKh V
   have hbo := fun d H => xNy d H V
   have hgm := yCN (f := xEo) go
   rw [fzB] at hgm
   have hem : V.isEmpty = false := by
    cases V with
    | nil => exact absurd rfl hne
    | cons _ _ => rfl
   rw [hem] at h35 ⊢
   have hdt : decide ((0 : Nat) = 0) = true := rfl
   rw [hdt]
   generalize evs V = L1 at *
   generalize bls W = L2 at *
   rw [yAR,a33,xAb]
   simp (disch := omega) only [WB,Nat.reduceAdd,Nat.reduceSub,xDM,e1',↓reduceIte,xBS,go,hnt,hfr,h35,xAQ,xAv,xJ0,hbo,hgm]
 ·have hdf : decide (chk fs = 0) = false := decide_eq_false hc
  have hci : ¬ ((chk fs : Nat) : Int) = 0 := by omega
  have h35 := xQh fz fs hlen hc V.isEmpty V
  rw [if_neg hc,hdf]
  generalize chk fs = c at *
  rcases g1 with ⟨rfl,rfl⟩ | ⟨o,rfl,go,hne⟩
  ·have h35' : L.pcall 35 [.sl fz fs.length (nds fs),.sl true 0 []] = some (.tup [.sl true 0 [],.int .i64 (c : Nat)]) := h35
   show _ = some (AV.tup [.sl true 0 [],.sl true 0 [],.bool false])
   rw [yAR,a33,xAb]
   simp (disch := omega) only [WB,Nat.reduceAdd,Nat.reduceSub,xDM,e1',↓reduceIte,h35',xAQ,xAv,hci]
  ·have hnl := xCG V
   have hnt := xKh V
   have hbo := fun d H => xNy d H V
   have hgm := yCN (f := xEo) go
   rw [fzB] at hgm
   have hem : V.isEmpty = false := by
    cases V with
    | nil => exact absurd rfl hne
    | cons _ _ => rfl
   rw [hem] at h35 ⊢
   generalize evs V = L1 at *
   rw [yAR,a33,xAb]
   simp (disch := omega) only [WB,Nat.reduceAdd,Nat.reduceSub,xDM,e1',↓reduceIte,xBS,go,hnt,hfr,h35,xAQ,xAv,xJ0,hbo,hci,hgm]
end
end Go.Abs.Events
