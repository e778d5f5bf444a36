/- open. -/
import Derived.Test.YtdheandekcpieaaGreatDoorAbsBun
import Derived.Test.YtdheandekcpieaaGreatDoorAMC
namespace Go.Abs.Events
open Go Go.Abs
set_option maxHeartbeats 4000000
set_option linter.unusedSimpArgs false
set_option linter.unusedVariables false
theorem yGd {w : Nat} (hw : w < 18446744073709551616) (k : Nat) : xDq .and .u64 (((w : Nat) : Int).fdiv (2 ^ k)) 1 = ((w.testBit k).toNat : Nat) := by
 have e1 : ((w : Nat) : Int).fdiv (2 ^ k) = ((w / 2 ^ k : Nat) : Int) := by
  have : ((2 : Int) ^ k) = ((2 ^ k : Nat) : Int) := by simp
  rw [this,Int.fdiv_eq_ediv_of_nonneg _ (Int.natCast_nonneg _)]
  exact (Int.natCast_ediv _ _).symm
 have h2 : w / 2 ^ k < 18446744073709551616 := Nat.lt_of_le_of_lt (Nat.div_le_self _ _) hw
 rw [e1,show (1 : Int) = ((1 : Nat) : Int) from rfl,yAw h2 (by decide)]
 congr 1
 rw [Nat.testBit,Nat.shiftRight_eq_div_pow]
 have hb : 1 &&& (w / 2 ^ k) = (w / 2 ^ k) % 2 := by rw [Nat.and_comm,Nat.and_one_is_mod]
 rw [hb,Nat.and_one_is_mod]
 rcases Nat.mod_two_eq_zero_or_one (w / 2 ^ k) with e | e <;> rw [e] <;> rfl
section
variable {fz z : Bool} {fs : List Nd} {l : List Int} {bd p : Nat} {G : Heap} {s0 : AV}
theorem yCm (hbd : bd < 8) (hl : l.length ≤ 100) (har : ∀ t ∈ l,0 ≤ t ∧ t ≤ 10) : ∀ k i,i + k = l.length → ∃ i' : Nat,
  L.loop xJy xTM ⟨xHG s0 (.int .u64 (bd : Nat)) (.bool false) (.ptr p 0) (.sl z l.length (xAB l)) (.int .i64 (l.length : Nat)) (.int .i64 (i : Nat)),G⟩ =
   some (if xRS bd (l.drop i) = true then (.ret,⟨xHG s0 (.int .u64 (bd : Nat)) (.bool true) (.ptr p 0) (.sl z l.length (xAB l)) (.int .i64 (l.length : Nat)) (.int .i64 (i' : Nat)),G⟩)
    else (.exit 0,⟨xHG s0 (.int .u64 (bd : Nat)) (.bool false) (.ptr p 0) (.sl z l.length (xAB l)) (.int .i64 (l.length : Nat)) (.int .i64 (i' : Nat)),G⟩)) := by
 intro k
 induction k with
 | zero =>
  intro i hi
  obtain rfl : i = l.length := by omega
  refine ⟨l.length,?_⟩
  rw [if_neg (by rw [List.drop_length]; simp [xRS]),xPP]
  simp (maxSteps := 30000000) (disch := first|exact D4|fail) only [xJx,WB,↓reduceIte,xDm]
 | succ k ih =>
  intro i hi'
  have hlt : (i : Int) < (l.length : Nat) := by omega
  have hl1 : i < l.length := by omega
  obtain ⟨i',ih'⟩ := ih (i + 1) (by omega)
  have em : xRS bd (l.drop i) = ((decide (8 ≤ l.getD i 0) && !(bd.testBit ((l.getD i 0).toNat - 8))) || xRS bd (l.drop (i + 1))) := by
   rw [List.drop_eq_getElem_cons hl1,List.getD_eq_getElem?_getD,List.getElem?_eq_getElem hl1]
   rfl
  have hm : l.getD i 0 ∈ l := by rw [List.getD_eq_getElem?_getD,List.getElem?_eq_getElem hl1]; exact List.getElem_mem hl1
  have hr := har _ hm
  rw [em]
  generalize hN : l.getD i 0 = t at *
  by_cases c1 : 8 ≤ t
  ·have hs : min (t - 8).toNat IntKind.u64.bits = t.toNat - 8 := by
    rw [Nat.min_eq_left (by show _ ≤ 64; omega)]; omega
   have hb := yGd (w := bd) (by omega) (t.toNat - 8)
   have hs0 : (0 : Int) ≤ t - 8 := by omega
   cases hbit : bd.testBit (t.toNat - 8) with
   | true =>
    rw [hbit] at hb
    simp only [c1,decide_true,Bool.true_and,Bool.not_true,Bool.false_or]
    refine ⟨i',?_⟩
    rw [xPP]
    simp (maxSteps := 30000000) (disch := first|exact D4|fail) only [xJx,WB,hlt,↓reduceIte,W2,hN,c1,hs,hb,Bool.toNat_true,Int.reduceEq,xDm,ih']
   | false =>
    rw [hbit] at hb
    simp only [c1,decide_true,Bool.true_and,Bool.not_false,Bool.true_or,if_true]
    refine ⟨i,?_⟩
    rw [xPP]
    simp (maxSteps := 30000000) (disch := first|exact D4|fail) only [xJx,WB,hlt,↓reduceIte,W2,hN,c1,hs,hb,Bool.toNat_false,xDm]
  ·simp only [c1,decide_false,Bool.false_and,Bool.false_or]
   refine ⟨i',?_⟩
   rw [xPP]
   simp (maxSteps := 30000000) (disch := first|exact D4|fail) only [xJx,WB,hlt,↓reduceIte,W2,hN,c1,xDm,ih']
theorem yCn {a b : Nat} (ha : a < 8) (hb : b < 8) : a ||| b < 8 := Nat.or_lt_two_pow (n := 3) ha hb
theorem pw8 {x : Int} (h : x = 8 ∨ x = 9 ∨ x = 10) : 2 ^ (x.toNat - 8) < 8 := by rcases h with rfl | rfl | rfl <;> decide
theorem xX9 {n : Nd} {i : Nat} (hv : Vn i n) (h : bd < 8) : bnd n bd < 8 := by
 unfold bnd
 split
 ·rename_i c
  exact yCn h (pw8 (hv.ex c))
 ·exact h
theorem yCo (hlen : fs.length ≤ 64) (hV : ∀ j,j < fs.length → Vn j (fs.getD j nd0)) : ∀ (k i bd : Nat),i < k → i < fs.length → bd < 8 →
  L.pcall 29 [.sl fz fs.length (nds fs),.int .i64 (i : Nat),.int .u64 (bd : Nat)] = some (.bool (opn fs k i bd)) := by
 intro k
 induction k with
 | zero => intro i bd h; omega
 | succ k ih =>
  intro i bd hik hi hbd
  have hv := hV i hi
  rw [opn]
  generalize hn : fs.getD i nd0 = n at *
  obtain ⟨i',e1⟩ := yCm (s0 := .sl fz fs.length (nds fs)) (z := n.z) (p := 0) (G := [.cells false false n.c]) hbd hv.al hv.ar n.args.length 0 (by omega)
  rw [List.drop_zero] at e1
  have h68 := xCP n.op
  have hch : List.take 1 (List.drop 1 (foC n.op)) = [.int .i64 (chn n.op : Nat)] := rfl
  have hfl : (foC n.op).length = 6 := rfl
  generalize foC n.op = C at *
  have hnv : xA2 n.z n.args = .sl n.z n.args.length (xAB n.args) := rfl
  unfold Nd.c at e1
  rw [hnv] at e1
  have e1' : L.loop xJy xTM ⟨xHG (.sl fz fs.length (nds fs)) (.int .u64 (bd : Nat)) (.bool false) (.ptr 0 0) (.sl n.z n.args.length (xAB n.args)) (.int .i64 (n.args.length : Nat)) (.int .i64 0),[.cells false false [.int .u8 (n.op : Nat),.int .i64 n.name,.sl n.z n.args.length (xAB n.args),.int .i64 n.x,.int .i64 n.a,.int .i64 n.b]]⟩ = _ := e1
  cases hA : xRS bd n.args with
  | true =>
   rw [hA] at e1'
   simp only [if_true,Bool.true_or] at e1' ⊢
   rw [xXZ,a29,xAa]
   simp (maxSteps := 30000000) (disch := first|exact D4|fail) only [WB,Nat.reduceAdd,Nat.reduceSub,xAs,Nd.c,hn,hnv,AV.cells,AV.isCell,↓reduceIte,xDm,e1']
  | false =>
   rw [hA] at e1'
   simp only [Bool.false_eq_true,if_false,Bool.false_or] at e1' ⊢
   have hbl := xX9 hv hbd
   have hrec : ∀ j : Nat,j < i → L.pcall 29 [.sl fz fs.length (nds fs),.int .i64 (j : Nat),.int .u64 (bnd n bd : Nat)] = some (.bool (opn fs k j (bnd n bd))) := fun j hj => ih j _ (by omega) (by omega) hbl
   have hca := hv.ca
   have hcb := hv.cb
   have hc2 := xAG n.op
   by_cases c7 : n.op = 7
   ·have c7' : (((n.op : Nat) : Int) = 7) = True := eq_true (by omega)
    have hx := hv.ex c7
    have hc1 : chn n.op = 1 := by rw [c7]; rfl
    have ha := xAF (hca (by omega))
    have hra := hrec _ ha.2
    rw [← ha.1] at hra
    have hs0 : (0 : Int) ≤ n.x - 8 := by omega
    have hbe : bnd n bd = bd ||| 2 ^ (n.x.toNat - 8) := by unfold bnd; rw [if_pos c7]
    have hsh : IntKind.u64.wrap (1 * 2 ^ min (n.x - 8).toNat IntKind.u64.bits) = ((2 ^ (n.x.toNat - 8) : Nat) : Int) := by
     rw [yCH (by omega),show (n.x - 8).toNat = n.x.toNat - 8 by omega]
    have hor : xDq .or .u64 (bd : Nat) ((2 ^ (n.x.toNat - 8) : Nat) : Int) = ((bnd n bd : Nat) : Int) := by
     rw [hbe,yDm (by omega) (Nat.lt_of_lt_of_le (pw8 hx) (by omega))]
    have hch' : (chn n.op : Nat) = 1 := hc1
    rw [hch'] at hch ⊢
    generalize bnd n bd = bd2 at *
    generalize opn fs k n.a.toNat bd2 = r at *
    cases r with
    | true =>
     rw [xXZ,a29,xAa]
     simp (maxSteps := 30000000) (disch := first|exact D4|fail) only [WB,Nat.reduceAdd,Nat.reduceSub,xAs,Nd.c,hn,hnv,AV.cells,AV.isCell,↓reduceIte,xDm,e1',c7',hsh,hor,h68,xAA,hch,Int.reduceLT,hra,xAm,Nat.reduceLT]
    | false =>
     rw [xXZ,a29,xAa]
     simp (maxSteps := 30000000) (disch := first|exact D4|fail) only [WB,Nat.reduceAdd,Nat.reduceSub,xAs,Nd.c,hn,hnv,AV.cells,AV.isCell,↓reduceIte,xDm,e1',c7',hsh,hor,h68,xAA,hch,Int.reduceLT,hra,xAm,Nat.reduceLT]
   ·have c7' : ¬ ((n.op : Nat) : Int) = 7 := by omega
    have hbe : bnd n bd = bd := by unfold bnd; rw [if_neg c7]
    rw [hbe] at hrec ⊢
    rcases hc2 with hc | hc | hc
    ·rw [hc] at hch ⊢
     rw [xXZ,a29,xAa]
     simp (maxSteps := 30000000) (disch := first|exact D4|fail) only [WB,Nat.reduceAdd,Nat.reduceSub,xAs,Nd.c,hn,hnv,AV.cells,AV.isCell,↓reduceIte,xDm,e1',c7',h68,xAA,hch,Int.reduceLT,Nat.reduceLT]
    ·have ha := xAF (hca (by omega))
     have hra := hrec _ ha.2
     rw [← ha.1] at hra
     rw [hc] at hch ⊢
     generalize opn fs k n.a.toNat bd = r at *
     cases r with
     | true =>
      rw [xXZ,a29,xAa]
      simp (maxSteps := 30000000) (disch := first|exact D4|fail) only [WB,Nat.reduceAdd,Nat.reduceSub,xAs,Nd.c,hn,hnv,AV.cells,AV.isCell,↓reduceIte,xDm,e1',c7',h68,xAA,hch,Int.reduceLT,hra,xAm,Nat.reduceLT]
     | false =>
      rw [xXZ,a29,xAa]
      simp (maxSteps := 30000000) (disch := first|exact D4|fail) only [WB,Nat.reduceAdd,Nat.reduceSub,xAs,Nd.c,hn,hnv,AV.cells,AV.isCell,↓reduceIte,xDm,e1',c7',h68,xAA,hch,Int.reduceLT,hra,xAm,Nat.reduceLT]
    ·have ha := xAF (hca (by omega))
     have hra := hrec _ ha.2
     rw [← ha.1] at hra
     have hb := xAF (hcb hc)
     have hrb := hrec _ hb.2
     rw [← hb.1] at hrb
     rw [hc] at hch ⊢
     generalize opn fs k n.a.toNat bd = r at *
     generalize opn fs k n.b.toNat bd = r2 at *
     cases r with
     | true =>
      rw [xXZ,a29,xAa]
      simp (maxSteps := 30000000) (disch := first|exact D4|fail) only [WB,Nat.reduceAdd,Nat.reduceSub,xAs,Nd.c,hn,hnv,AV.cells,AV.isCell,↓reduceIte,xDm,e1',c7',h68,xAA,hch,Int.reduceLT,hra,xAm,Nat.reduceLT]
     | false =>
      rw [xXZ,a29,xAa]
      simp (maxSteps := 30000000) (disch := first|exact D4|fail) only [WB,Nat.reduceAdd,Nat.reduceSub,xAs,Nd.c,hn,hnv,AV.cells,AV.isCell,↓reduceIte,xDm,e1',c7',h68,xAA,hch,Int.reduceLT,hra,xAm,hrb,Nat.reduceLT]
end
def xEr : List Nd → List Nat → Nat
 | n :: fs,s :: ss => if xGL n s = 0 then xEr fs ss else xGL n s
 | _,_ => 0
def chk (fs : List Nd) : Nat :=
 if fs.length = 0 then 3 else if 64 < fs.length then 4
 else if xEr fs (szs fs []) = 0 then
  (if (szs fs []).getD (fs.length - 1) 0 = fs.length then (if opn fs fs.length (fs.length - 1) 0 = true then 11 else 0) else 2)
 else xEr fs (szs fs [])
theorem wi_iff {lo hi : Int} {l : List Int} : wi lo hi l = true ↔ ∀ t ∈ l,lo ≤ t ∧ t ≤ hi := by
 unfold wi
 rw [List.all_eq_true]
 constructor
 ·intro h t ht
  simpa using h t ht
 ·intro h t ht
  simpa using h t ht
theorem xYa {op : Nat} (h : ((fnm op).toList == (⟨#[]⟩ : ByteArray).toList) = false) : 1 ≤ op ∧ op ≤ 10 := by
 by_cases c : 1 ≤ op ∧ op ≤ 10
 ·exact c
 ·exfalso
  have : fnm op = ⟨#[]⟩ := by
   unfold fnm
   simp [show op ≠ 1 by omega,show op ≠ 2 by omega,show op ≠ 3 by omega,show op ≠ 4 by omega,show op ≠ 5 by omega,show op ≠ 6 by omega,show op ≠ 7 by omega,show op ≠ 8 by omega,show op ≠ 9 by omega,show op ≠ 10 by omega]
  rw [this] at h
  simp at h
theorem yCp {n : Nd} {os : List Nat} (hI : ∀ k,k < os.length → os.getD k 0 ≤ k + 1) (h : szN n os ≠ 0) : (1 ≤ chn n.op → 0 ≤ n.a ∧ n.a < os.length) ∧ (chn n.op = 2 → 0 ≤ n.b ∧ n.b < os.length) := by
 unfold szN at h
 split at h
 ·constructor <;> intro q <;> omega
 split at h
 ·exact absurd rfl h
 rename_i h1
 rw [not_or] at h1
 split at h
 ·split at h
  ·rename_i q
   refine ⟨fun _ => ?_,fun _ => ?_⟩ <;> omega
  ·exact absurd rfl h
 split at h
 ·exact absurd rfl h
 split at h
 ·rename_i q
  refine ⟨fun _ => ?_,fun _ => ?_⟩ <;> omega
 ·exact absurd rfl h
theorem yCq {n : Nd} {os : List Nat} (hI : ∀ k,k < os.length → os.getD k 0 ≤ k + 1) (h : xGL n (szN n os) = 0) : Vn os.length n := by
 unfold xGL at h
 split at h
 ·cases h
 rename_i h0
 split at h
 ·cases h
 rename_i h1
 split at h
 ·cases h
 rename_i h2
 have ho := xYa (by simpa using h0)
 unfold yAM at h1
 unfold yAN at h2
 simp only [Bool.or_eq_true,Bool.and_eq_true,not_or,not_and,Bool.not_eq_true',decide_eq_true_eq,decide_eq_false_iff_not,Bool.not_eq_true,Bool.not_eq_false,Bool.not_eq_eq_eq_not,Bool.not_false,Bool.not_true] at h1 h2
 obtain ⟨⟨⟨⟨q1,q2⟩,q3⟩,q4⟩,q5⟩ := h1
 obtain ⟨⟨r1,r2⟩,r3⟩ := h2
 have hs := yCp hI (by simpa using q3)
 have hhi := xQg n.op
 have q4' : ¬ n.args.length < flo n.op := by simpa using q4
 have q5' : ¬ fhi n.op < n.args.length := by simpa using q5
 refine ⟨ho,by omega,?_,?_,?_,hs.1,hs.2⟩
 ·exact wi_iff.1 (by simpa using r3)
 ·intro e
  rw [e] at q4' q5'
  have e1 : flo 3 = 2 := rfl
  have e2 : fhi 3 = 2 := rfl
  omega
 ·intro e
  have := wi_iff.1 (show wi 8 10 [n.x] = true by simpa using r2 e) n.x (by simp)
  omega
theorem xGJ : ∀ (fs : List Nd) (os : List Nat),(szs fs os).take os.length = os
 | [],os => by simp [szs]
 | n :: fs,os => by
  rw [szs]
  have := xGJ fs (os ++ [szN n os])
  have h2 := congrArg (List.take os.length) this
  rw [List.take_take,List.length_append,Nat.min_eq_left (by omega),List.take_append_of_le_length (Nat.le_refl _),List.take_of_length_le (Nat.le_refl _)] at h2
  exact h2
theorem xKY (n : Nd) (fs : List Nd) (os : List Nat) : (szs (n :: fs) os).drop os.length = szN n os :: (szs fs (os ++ [szN n os])).drop (os ++ [szN n os]).length := by
 rw [szs]
 have h1 := xGJ fs (os ++ [szN n os])
 have hl := xDS fs (os ++ [szN n os])
 simp only [List.length_append,List.length_singleton] at h1 hl ⊢
 rw [List.drop_eq_getElem_cons (by omega)]
 congr 1
 have h3 : (List.take (os.length + 1) (szs fs (os ++ [szN n os])))[os.length]? = (os ++ [szN n os])[os.length]? := by rw [h1]
 rw [List.getElem?_take_of_lt (by omega),List.getElem?_append_right (Nat.le_refl _),Nat.sub_self,List.getElem?_eq_getElem (by omega)] at h3
 simpa using h3
theorem xQa : ∀ (fs : List Nd) (os : List Nat),(∀ k,k < os.length → os.getD k 0 ≤ k + 1) → xEr fs ((szs fs os).drop os.length) = 0 → ∀ j,j < fs.length → Vn (os.length + j) (fs.getD j nd0)
 | [],os,hI,h,j,hj => by simp at hj
 | n :: fs,os,hI,h,j,hj => by
  rw [xKY,xEr] at h
  split at h
  ·rename_i h0
   cases j with
   | zero => exact yCq hI h0
   | succ j =>
    have := xQa fs (os ++ [szN n os]) (xK2 hI) h j (by simpa using hj)
    rw [List.length_append,List.length_singleton] at this
    rw [show os.length + (j + 1) = os.length + 1 + j by omega]
    simpa using this
  ·contradiction
theorem xUB (n : Nd) (s : Nat) : xGL n s ≤ 6 := by unfold xGL; split <;> (try split) <;> (try split) <;> omega
theorem xUC : ∀ (fs : List Nd) (ss : List Nat),xEr fs ss ≤ 6
 | [],_ => by simp [xEr]
 | n :: fs,[] => by simp [xEr]
 | n :: fs,s :: ss => by
  rw [xEr]
  split
  ·exact xUC fs ss
  ·exact xUB n s
theorem xIk {fs : List Nd} (h : chk fs = 0) : 0 < fs.length ∧ fs.length ≤ 64 ∧ ∀ j,j < fs.length → Vn j (fs.getD j nd0) := by
 unfold chk at h
 split at h
 ·cases h
 split at h
 ·cases h
 split at h
 ·rename_i h0
  refine ⟨by omega,by omega,fun j hj => ?_⟩
  have := xQa fs [] (by simp) (by simpa using h0) j hj
  simpa using this
 ·contradiction
section
variable {fz : Bool} {fs : List Nd} {ss : List Nat}
abbrev F34 (fz : Bool) (fs : List Nd) (ss : List Nat) (r : Int) (i : Nat) : List AV := xTv (.sl fz fs.length (nds fs)) (.int .i64 r) (.sl false fs.length (xAU ss)) (.sl fz fs.length (nds fs)) (.int .i64 (fs.length : Nat)) (.int .i64 (i : Nat))
theorem yCr (hlen : fs.length ≤ 64) (hs : ss.length = fs.length) : ∀ k i,i + k = fs.length → ∀ G,∃ (i' : Nat) (G' : Heap),
  L.loop xQ5 yBC ⟨F34 fz fs ss 0 i,G⟩ =
   some (if xEr (fs.drop i) (ss.drop i) = 0 then (.exit 1,⟨F34 fz fs ss 0 fs.length,G'⟩) else (.ret,⟨F34 fz fs ss (xEr (fs.drop i) (ss.drop i) : Nat) i',G'⟩)) := by
 intro k
 induction k with
 | zero =>
  intro i hi G
  obtain rfl : i = fs.length := by omega
  refine ⟨fs.length,G,?_⟩
  rw [if_pos (by rw [List.drop_length]; rfl),xZk]
  simp (maxSteps := 30000000) (disch := first|exact D4|fail) only [xTu,WB,↓reduceIte,xOc]
 | succ k ih =>
  intro i hi G
  have hlt : i < fs.length := by omega
  have hltI : ((i : Nat) : Int) < (fs.length : Nat) := by omega
  have em : xEr (fs.drop i) (ss.drop i) = (if xGL (fs.getD i nd0) (ss.getD i 0) = 0 then xEr (fs.drop (i + 1)) (ss.drop (i + 1)) else xGL (fs.getD i nd0) (ss.getD i 0)) := by
   rw [List.drop_eq_getElem_cons hlt,List.drop_eq_getElem_cons (show i < ss.length by omega),xEr,List.getD_eq_getElem?_getD,List.getElem?_eq_getElem hlt,List.getD_eq_getElem?_getD,List.getElem?_eq_getElem (by omega)]
   rfl
  rw [em]
  obtain ⟨i',G',ih'⟩ := ih (i + 1) (by omega) (G ++ [.cells false false (fs.getD i nd0).c])
  generalize hn : fs.getD i nd0 = n at *
  have h67 := yAc n (ss.getD i 0)
  have hle := xUB n (ss.getD i 0)
  have hz : ss.getD i 0 = ss.getD i 0 := rfl
  generalize hsv : ss.getD i 0 = sv at *
  have hnv : xA2 n.z n.args = .sl n.z n.args.length (xAB n.args) := rfl
  unfold Nd.c at h67 ih'
  rw [hnv] at h67 ih'
  generalize hcv : xGL n sv = e at *
  by_cases c : e = 0
  ·subst c
   simp only [if_true]
   refine ⟨i',G',?_⟩
   rw [xZk]
   simp (maxSteps := 30000000) (disch := first|exact D4|fail) only [xTu,WB,hltI,↓reduceIte,xAs,Nd.c,hn,hnv,AV.cells,AV.isCell,Nat.reduceAdd,xBq,xBG,xAn,hsv,h67,xAA,xAm,xOc,ih']
  ·have c' : ¬ ((e : Nat) : Int) = 0 := by omega
   simp only [if_neg c]
   refine ⟨i,G ++ [.cells false false [.int .u8 (n.op : Nat),.int .i64 n.name,.sl n.z n.args.length (xAB n.args),.int .i64 n.x,.int .i64 n.a,.int .i64 n.b]],?_⟩
   rw [xZk]
   simp (maxSteps := 30000000) (disch := first|exact D4|fail) only [xTu,WB,hltI,↓reduceIte,xAs,Nd.c,hn,hnv,AV.cells,AV.isCell,Nat.reduceAdd,xBq,xBG,xAn,hsv,h67,xAA,xAm,c',xOc]
theorem xH3 (fz : Bool) (fs : List Nd) (h47 : fs.length < 1000) : L.pcall 7 [.sl fz fs.length (nds fs)] = some (.int .i64 (chk fs : Nat)) := by
 unfold chk
 by_cases c1 : fs.length = 0
 ·rw [if_pos c1]
  have c1' : ((fs.length : Nat) : Int) = 0 := by omega
  rw [a7p,a7,xAa]
  simp (maxSteps := 30000000) (disch := first|exact D4|fail) only [WB,Nat.reduceSub,c1',↓reduceIte]
 have c1' : ¬ ((fs.length : Nat) : Int) = 0 := by omega
 rw [if_neg c1]
 by_cases c2 : 64 < fs.length
 ·rw [if_pos c2]
  have c2' : (64 : Int) < ((fs.length : Nat) : Int) := by omega
  rw [a7p,a7,xAa]
  simp (maxSteps := 30000000) (disch := first|exact D4|fail) only [WB,Nat.reduceSub,c1',↓reduceIte,c2']
 have c2' : ¬ (64 : Int) < ((fs.length : Nat) : Int) := by omega
 rw [if_neg c2]
 have h66 := yAb (fz := fz) (show fs.length ≤ 64 by omega)
 have hsl := xDS fs []
 have hv0 := xQa fs [] (by simp)
 have hle := xUC fs (szs fs [])
 have hend : xEr fs (szs fs []) = 0 → ∀ j,j < fs.length → Vn j (fs.getD j nd0) := by
  intro h0 j hj
  have := hv0 (by simpa using h0) j hj
  simpa using this
 simp only [List.length_nil,Nat.zero_add] at hsl
 generalize szs fs [] = ss at *
 obtain ⟨i',G',e1⟩ := yCr (fz := fz) (show fs.length ≤ 64 by omega) hsl fs.length 0 (by omega) []
 simp only [List.drop_zero] at e1
 have e1' : L.loop xQ5 yBC ⟨xTv (.sl fz fs.length (nds fs)) (.int .i64 0) (.sl false fs.length (xAU ss)) (.sl fz fs.length (nds fs)) (.int .i64 (fs.length : Nat)) (.int .i64 0),[]⟩ = _ := e1
 by_cases c3 : xEr fs ss = 0
 ·rw [if_pos c3] at e1' ⊢
  have h42 := yCo (fz := fz) (show fs.length ≤ 64 by omega) (hend c3) fs.length (fs.length - 1) 0 (by omega) (by omega) (by omega)
  have hsub : ((fs.length : Nat) : Int) - 1 = ((fs.length - 1 : Nat) : Int) := by omega
  have h42 : L.pcall 29 [.sl fz fs.length (nds fs),.int .i64 (fs.length - 1 : Nat),.int .u64 0] = _ := h42
  generalize hsv : ss.getD (fs.length - 1) 0 = v
  by_cases c4 : v = fs.length
  ·rw [if_pos c4]
   have c4' : (((v : Nat) : Int) = (fs.length : Nat)) = True := eq_true (by omega)
   cases ho : opn fs fs.length (fs.length - 1) 0 with
   | true =>
    rw [ho] at h42
    rw [a7p,a7,xAa]
    simp (maxSteps := 30000000) (disch := first|exact D4|fail) only [WB,Nat.reduceSub,c1',↓reduceIte,c2',h66,xAA,xAm,xOc,e1',hsub,hsv,c4',h42]
   | false =>
    rw [ho] at h42
    rw [a7p,a7,xAa]
    simp (maxSteps := 30000000) (disch := first|exact D4|fail) only [WB,Nat.reduceSub,c1',↓reduceIte,c2',h66,xAA,xAm,xOc,e1',hsub,hsv,c4',h42]
  ·rw [if_neg c4]
   have c4' : ¬ (((v : Nat) : Int) = (fs.length : Nat)) := by omega
   rw [a7p,a7,xAa]
   simp (maxSteps := 30000000) (disch := first|exact D4|fail) only [WB,Nat.reduceSub,c1',↓reduceIte,c2',h66,xAA,xAm,xOc,e1',hsub,hsv,c4']
 ·rw [if_neg c3] at e1' ⊢
  generalize xEr fs ss = r at *
  rw [a7p,a7,xAa]
  simp (maxSteps := 30000000) (disch := first|exact D4|fail) only [WB,Nat.reduceSub,c1',↓reduceIte,c2',h66,xAA,xAm,xOc,e1']
end
def WN (n : Nd) : Prop := n.z = n.args.isEmpty
theorem xZS {z : Bool} {l : List Int} (hz : z = l.isEmpty) (hl : l.length ≤ 1000) : L.pcall 94 [.sl z l.length (xAB l)] = some (.sl z l.length (xAB l)) := by
 cases l with
 | nil =>
  subst hz
  show L.pcall 94 [.sl true 0 []] = some (.sl true 0 [])
  rw [yFa,a94,xAa]
  simp (maxSteps := 30000000) (disch := first|exact D4|fail) only [WB,Nat.reduceSub,↓reduceIte]
 | cons x l =>
  subst hz
  have h0 : (x :: l).isEmpty = false := rfl
  rw [h0]
  generalize x :: l = l at *
  rw [yFa,a94,xAa]
  simp (maxSteps := 30000000) (disch := first|exact D4|fail) only [WB,Nat.reduceSub,↓reduceIte,AV.cells,xAR,W2]
theorem xWP {l : List AV} {k : Nat} {x : AV} (h : l[k]? = some x) : List.take k l ++ (x :: List.drop (k + 1) l) = l := by
 obtain ⟨hk,hx⟩ := List.getElem?_eq_some_iff.1 h
 rw [← hx,← List.drop_eq_getElem_cons hk,List.take_append_drop]
theorem xZT {fs : List Nd} {i : Nat} (h : i < fs.length) : (nds fs)[i * 6 + 2]? = some (xA2 (fs.getD i nd0).z (fs.getD i nd0).args) := by
 have h1 := xAs h
 have h2 := congrArg (fun l => l[2]?) h1
 simp only [List.getElem?_take_of_lt (show 2 < 6 by omega),List.getElem?_drop] at h2
 rw [h2]; rfl
theorem xZU (d : Nat) (H : Heap) (n : Nd) : n.c.mapM (frz d H) = some n.c := by
 unfold Nd.c xA2
 simp [List.mapM_cons,xDO,xEl]
theorem xKZ (d : Nat) (H : Heap) : ∀ l : List Nd,(nds l).mapM (frz d H) = some (nds l)
 | [] => rfl
 | n :: l => mapM_append' (xZU d H n) (xKZ d H l)
theorem xFn (l : List Nd) : List.take (l.length * 6) (nds l) = nds l := List.take_of_length_le (by rw [xAb]; omega)
theorem xQb : ∀ l : List Nd,(nds l).all xCk = true
 | [] => rfl
 | n :: l => by
  show (n.c ++ nds l).all xCk = true
  rw [List.all_append,xQb l]
  simp [Nd.c,xA2,xCk]
section
variable {fs : List Nd} {ob : Nat}
abbrev F50 (fs : List Nd) (ob i : Nat) : List AV := xM1 (.own false ob 0 fs.length 6) (.own false ob 0 fs.length 6) (.int .i64 (fs.length : Nat)) (.int .i64 (i : Nat))
theorem yCs (hlen : fs.length ≤ 64) (hw : ∀ j,j < fs.length → WN (fs.getD j nd0)) (ha : ∀ j,j < fs.length → (fs.getD j nd0).args.length ≤ 1000) : ∀ k i,i + k = fs.length → ∀ G : Heap,G[ob]? = some (.cells false false (nds fs)) → ∃ G' : Heap,
  L.loop xJX xT6 ⟨F50 fs ob i,G⟩ = some (.exit 0,⟨F50 fs ob fs.length,G'⟩) ∧ G'[ob]? = some (.cells false false (nds fs)) := by
 intro k
 induction k with
 | zero =>
  intro i hi G go
  obtain rfl : i = fs.length := by omega
  refine ⟨G,?_,go⟩
  rw [xXY]
  simp (maxSteps := 30000000) (disch := first|exact D4|fail) only [xP1,WB,↓reduceIte,xT7]
 | succ k ih =>
  intro i hi G go
  have hlt : i < fs.length := by omega
  have hltI : ((i : Nat) : Int) < (fs.length : Nat) := by omega
  have lo := xA4 go
  obtain ⟨G',e1,g1⟩ := ih (i + 1) (by omega) (G ++ [.cells false false (fs.getD i nd0).c]) (by rw [xAS lo]; exact go)
  refine ⟨G',?_,g1⟩
  have hput := xWP (xZT hlt)
  have h83 := xZS (hw i hlt) (ha i hlt)
  have hset : G.set ob (.cells false false (nds fs)) = G := by
   obtain ⟨hk,hx⟩ := List.getElem?_eq_some_iff.1 go
   rw [← hx,List.set_getElem_self]
  generalize hn : fs.getD i nd0 = n at *
  have hnv : xA2 n.z n.args = .sl n.z n.args.length (xAB n.args) := rfl
  unfold Nd.c at e1
  rw [hnv] at e1 hput
  rw [xXY]
  simp (maxSteps := 30000000) (disch := first|exact D4|fail) only [xP1,WB,hltI,↓reduceIte,go,xAs,Nd.c,hn,hnv,AV.cells,AV.isCell,Nat.reduceAdd,xBq,xBG,h83,xAA,xAm,xAS,hput,xDp,hset,xT7,e1]
theorem xZV (h0 : 0 < fs.length) (hlen : fs.length ≤ 64) : xCW L 93 [.sl false fs.length (nds fs)] = some (.own false 0 0 fs.length 6,[.cells false false (nds fs)]) := by
 rw [xTm,yFR,a93,xAu]
 simp (maxSteps := 30000000) (disch := first|exact D4|fail) only [WB,Nat.reduceSub,↓reduceIte,AV.cells,Nat.zero_mul,WP,xQb]
theorem xWQ (h0 : 0 < fs.length) (hlen : fs.length ≤ 64) (hw : ∀ j,j < fs.length → WN (fs.getD j nd0)) (ha : ∀ j,j < fs.length → (fs.getD j nd0).args.length ≤ 1000) : L.pcall 68 [.sl false fs.length (nds fs)] = some (.sl false fs.length (nds fs)) := by
 have h82 := xZV h0 hlen
 obtain ⟨G',e1,g1⟩ := yCs (ob := 0) hlen hw ha fs.length 0 (by omega) [.cells false false (nds fs)] rfl
 have e1' : L.loop xJX xT6 ⟨xM1 (.own false 0 0 fs.length 6) (.own false 0 0 fs.length 6) (.int .i64 (fs.length : Nat)) (.int .i64 0),[.cells false false (nds fs)]⟩ = _ := e1
 rw [yFH,a68,xAa]
 simp (maxSteps := 30000000) (disch := first|exact D4|fail) only [WB,Nat.reduceSub,WP,h82,xCA,xLJ,xFE,xT7,e1',↓reduceIte,xAR,g1,xFn,xKZ]
end
def nT (l : List Nd) : Nat := (l.filter fun n => tmp n.op).length
def zr (c : Nat) : List (List Nat) := List.replicate c (List.replicate 64 0)
theorem xZW (c : Nat) : (zr c).flatten = List.replicate (64 * c) 0 := by
 unfold zr
 rw [List.flatten_replicate_replicate,Nat.mul_comm]
theorem xZX (fs : List Nd) : Rows fs (zr (nT fs)) := by
 refine ⟨by simp [zr,nT],fun w hw => ?_⟩
 have := List.eq_of_mem_replicate hw
 subst this
 refine ⟨by simp,fun x hx => ?_⟩
 have := List.eq_of_mem_replicate hx
 omega
theorem yEr (l : List Nd) : nT l ≤ l.length := List.length_filter_le _ _
theorem xZY {fs : List Nd} {i : Nat} (h : i < fs.length) : nT (fs.take (i + 1)) = nT (fs.take i) + (if tmp (fs.getD i nd0).op = true then 1 else 0) := by
 rw [List.take_succ_eq_append_getElem h]
 unfold nT
 rw [List.filter_append,List.length_append,List.getD_eq_getElem?_getD,List.getElem?_eq_getElem h]
 congr 1
 simp only [List.filter_cons,List.filter_nil,Option.getD_some]
 split <;> rfl
section
variable {fs : List Nd} {m B : Nat}
abbrev F19 (fs : List Nd) (m i : Nat) : List AV := xMV (.ptr m 0) (.sl false fs.length (nds fs)) (.int .i64 (fs.length : Nat)) (.int .i64 (i : Nat))
theorem yCt (hlen : fs.length ≤ 64) (hV : ∀ j,j < fs.length → Vn j (fs.getD j nd0)) (hB : B ≤ m) : ∀ k i,i + k = fs.length → ∀ (G : Heap) (sb c : Nat),c = nT (fs.take i) → B ≤ sb → m ≠ sb →
  G[m]? = some (.cells false false [.sl false fs.length (nds fs),.own false sb 0 (64 * c + 1) 1]) → G[sb]? = some (.cells false false (bs (List.replicate (64 * c + 1) 0))) → ∃ (G' : Heap) (sb' : Nat),
  L.loop xJE xTR ⟨F19 fs m i,G⟩ = some (.exit 0,⟨F19 fs m fs.length,G'⟩) ∧ B ≤ sb' ∧ m ≠ sb' ∧ Kp B G G' ∧
   G'[m]? = some (.cells false false [.sl false fs.length (nds fs),.own false sb' 0 (64 * nT fs + 1) 1]) ∧ G'[sb']? = some (.cells false false (bs (List.replicate (64 * nT fs + 1) 0))) := by
 intro k
 induction k with
 | zero =>
  intro i hi G sb c hc h1 h2 gm gb
  obtain rfl : i = fs.length := by omega
  rw [List.take_length] at hc
  subst hc
  refine ⟨G,sb,?_,h1,h2,.refl _ _,gm,gb⟩
  rw [xTS]
  simp (maxSteps := 30000000) (disch := first|exact D4|fail) only [xMU,WB,↓reduceIte,xPU]
 | succ k ih =>
  intro i hi G sb c hc h1 h2 gm gb
  have hlt : i < fs.length := by omega
  have hltI : ((i : Nat) : Int) < (fs.length : Nat) := by omega
  have lm := xA4 gm
  have lb := xA4 gb
  have hs := xZY hlt
  have hcl : c ≤ 64 := by
   rw [hc]
   have := yEr (fs.take i)
   rw [List.length_take] at this
   omega
  have h51 := yAd (hV i hlt).op
  generalize hn : fs.getD i nd0 = n at *
  have hnv : xA2 n.z n.args = .sl n.z n.args.length (xAB n.args) := rfl
  cases ht : tmp n.op with
  | false =>
   rw [ht] at h51 hs
   simp only [Bool.false_eq_true,if_false,Nat.add_zero] at hs
   obtain ⟨G',sb',e1,q1,q2,q3,q4,q5⟩ := ih (i + 1) (by omega) (G ++ [.cells false false n.c]) sb c (hc.trans hs.symm) h1 h2 (by rw [xAS lm]; exact gm) (by rw [xAS lb]; exact gb)
   refine ⟨G',sb',?_,q1,q2,(Kp.appB _ _ (by omega)).trans q3,q4,q5⟩
   unfold Nd.c at e1
   rw [hnv] at e1
   rw [xTS]
   simp (maxSteps := 30000000) (disch := first|exact D4|fail) only [xMU,WB,hltI,↓reduceIte,xAs,Nd.c,hn,hnv,AV.cells,AV.isCell,Nat.reduceAdd,xBq,xBG,h51,xAA,xAm,xPU,e1]
  | true =>
   rw [ht] at h51 hs
   simp only [if_true] at hs
   have hrep : List.replicate (64 * c + 1) 0 ++ List.replicate 64 0 = List.replicate (64 * (c + 1) + 1) 0 := by
    rw [List.replicate_append_replicate]; congr 1
   obtain ⟨G',sb',e1,q1,q2,q3,q4,q5⟩ := ih (i + 1) (by omega) ((G.set sb .dead).set m (.cells false false [.sl false fs.length (nds fs),.own false (G.length + 1) 0 (64 * (c + 1) + 1) 1]) ++ [.cells false false n.c,.cells false false (bs (List.replicate (64 * (c + 1) + 1) 0))]) (G.length + 1) (c + 1) (by rw [hs,hc]) (by omega) (by omega)
    (by rw [xAS (by simpa using lm),xEJ (by simpa using lm)])
    (by rw [xH6 (by simp)]; simp)
   refine ⟨G',sb',?_,q1,q2,(((Kp.set h1).trans (Kp.set hB)).trans (Kp.appB _ _ (by simp; omega))).trans q3,q4,q5⟩
   unfold Nd.c at e1
   rw [hnv] at e1
   have hl1 : 64 * c + 1 + 64 = 64 * (c + 1) + 1 := by omega
   have hrz : xCu [AV.int .u8 0] 64 = bs (List.replicate 64 0) := xZq 64
   have hrl : (bs (List.replicate (64 * c + 1) 0)).length = 64 * c + 1 := by rw [xBE]; simp
   have happ : bs (List.replicate (64 * c + 1) 0) ++ bs (List.replicate 64 0) = bs (List.replicate (64 * (c + 1) + 1) 0) := by rw [← hrep]; simp [bs]
   have hms : sb ≠ m := fun q => h2 q.symm
   have htk : List.take (64 * c + 1) (bs (List.replicate (64 * c + 1) 0)) = bs (List.replicate (64 * c + 1) 0) := List.take_of_length_le (by omega)
   generalize bs (List.replicate (64 * (c + 1) + 1) 0) = L2 at *
   generalize bs (List.replicate (64 * c + 1) 0) = L1 at *
   have happz : xS0 [.int .u8 0] 1 sb 0 (64 * c + 1) 1 64 (G ++ [.cells false false [.int .u8 (n.op : Nat),.int .i64 n.name,.sl n.z n.args.length (xAB n.args),.int .i64 n.x,.int .i64 n.a,.int .i64 n.b]]) (some (.cells false false L1)) =
     some (.own false (G.length + 1) 0 (64 * (c + 1) + 1) 1,(G ++ [Blk.cells false false [.int .u8 (n.op : Nat),.int .i64 n.name,.sl n.z n.args.length (xAB n.args),.int .i64 n.x,.int .i64 n.a,.int .i64 n.b]]).set sb .dead ++ [.cells false false L2]) := by
    have := xN4 (z := [.int .u8 0]) (bytes := 1) (id := sb) (k := 64 * c + 1) (m := 64) (zz := false) (cs := L1) (H := G ++ [.cells false false [.int .u8 (n.op : Nat),.int .i64 n.name,.sl n.z n.args.length (xAB n.args),.int .i64 n.x,.int .i64 n.a,.int .i64 n.b]]) (by show (64 * c + 1) * 1 ≤ _; omega) (by omega) (by omega) (by omega) rfl
    rw [hrz,hl1,List.length_append,show (64 * c + 1) * [AV.int .u8 0].length = 64 * c + 1 from Nat.mul_one _,htk,happ] at this
    exact this
   rw [xTS]
   simp (maxSteps := 30000000) (disch := first|exact D4|fail) only [xMU,WB,hltI,↓reduceIte,xAs,Nd.c,hn,hnv,AV.cells,AV.isCell,Nat.reduceAdd,xBq,xBG,h51,xAA,xAm,xAS,gm,xS1,Int.reduceToNat,gb,happz,xDp,xBH,xPU,e1]
theorem xUD (fz : Bool) (fs : List Nd) (hlen : fs.length < 1000) (h : chk fs ≠ 0) (G : Heap) : L.icall (.func 36 []) [.sl fz fs.length (nds fs)] G = some (.tup [.nilp,.int .i64 (chk fs : Nat)],G) := by
 have h34 := xH3 fz fs hlen
 have h' : ¬ ((chk fs : Nat) : Int) = 0 := by omega
 generalize chk fs = e at *
 rw [yE5,a36,xAu]
 simp (disch := omega) only [WB,Nat.reduceSub,h34,xAA,xAm,↓reduceIte,h']
theorem xWR (h : chk fs = 0) (hw : ∀ j,j < fs.length → WN (fs.getD j nd0)) (G : Heap) : ∃ (G' : Heap) (m sb : Nat),L.icall (.func 36 []) [.sl false fs.length (nds fs)] G = some (.tup [.ptr m 0,.int .i64 0],G') ∧
  Mo false fs m sb G' (zr (nT fs)) 0 ∧ Kp G.length G G' ∧ G.length ≤ m ∧ G.length ≤ sb := by
 obtain ⟨h0,hlen,hV⟩ := xIk h
 have h34 := xH3 false fs (by omega)
 rw [h] at h34
 have h34' : L.pcall 7 [.sl false fs.length (nds fs)] = some (.int .i64 0) := h34
 have h50 := xWQ h0 hlen hw (fun j hj => Nat.le_trans (hV j hj).al (by omega))
 obtain ⟨G',sb',e1,q1,q2,q3,q4,q5⟩ := yCt (B := G.length) hlen hV (m := G.length + 1) (by omega) fs.length 0 (by omega) (G ++ [.cells false false [.int .u8 0],.cells false false [.sl false fs.length (nds fs),.own false G.length 0 1 1]]) G.length 0 (by simp [nT]) (by omega) (by omega)
  (by rw [xH6 (by omega)]; simp) (by rw [List.getElem?_append_right (Nat.le_refl _),Nat.sub_self]; rfl)
 refine ⟨G',G.length + 1,sb',?_,⟨?_,?_,q2,xZX fs,by omega⟩,(Kp.app _ _).trans q3,by omega,q1⟩
 ·have e1' : L.loop xJE xTR ⟨xMV (.ptr (G.length + 1) 0) (.sl false fs.length (nds fs)) (.int .i64 (fs.length : Nat)) (.int .i64 0),G ++ [.cells false false [.int .u8 0],.cells false false [.sl false fs.length (nds fs),.own false G.length 0 1 1]]⟩ = _ := e1
  rw [yE5,a36,xAu]
  simp (disch := omega) only [WB,Nat.reduceSub,h34',xAA,xAm,↓reduceIte,h50,AV.cells,AV.isCell,Nat.reduceAdd,Nat.reduceLeDiff,xPU,e1']
 ·rw [q4]; simp [zr]
 ·rw [q5,xZW,show 64 * nT fs + 1 = (64 * nT fs) + 1 from rfl,List.replicate_succ]
end
def evC (e : Ev) : List AV := [.int .i64 e.name,xA2 e.z e.args]
def ev0 : Ev := ⟨0,true,[]⟩
abbrev evs (l : List Ev) : List AV := rows evC l
theorem xAg (l : List Ev) : (evs l).length = l.length * 2 := xEK (enc := evC) (k := 2) (fun _ => rfl) l
theorem xDR {l : List Ev} {i : Nat} (h : i < l.length) : List.take 2 (List.drop (i * 2) (evs l)) = evC (l.getD i ev0) := by
 rw [xFp (enc := evC) (k := 2) (fun _ => rfl),List.drop_eq_getElem_cons h]
 have : rows evC (l[i] :: l.drop (i + 1)) = evC l[i] ++ rows evC (l.drop (i + 1)) := rfl
 rw [this,List.take_append_of_le_length (by simp [evC]),List.take_of_length_le (by simp [evC]),List.getD_eq_getElem?_getD,List.getElem?_eq_getElem h]
 rfl
def bls (l : List Bool) : List AV := l.map AV.bool
theorem xAe (l : List Bool) : (bls l).length = l.length := by simp [bls]
theorem xZZ (a b : List Bool) : bls a ++ bls b = bls (a ++ b) := by simp [bls]
theorem xDe {l : List Bool} {k : Nat} (h : k < l.length) : List.take 1 (List.drop k (bls l)) = [AV.bool (l.getD k false)] := by
 rw [List.drop_eq_getElem_cons (by simpa [bls] using h),List.take_succ_cons,List.take_zero]
 simp [bls,List.getD_eq_getElem?_getD,List.getElem?_eq_getElem h]
theorem xH4 (d : Nat) (H : Heap) : ∀ l : List Bool,(bls l).mapM (frz d H) = some (bls l)
 | [] => rfl
 | b :: l => by
  have := xH4 d H l
  show List.mapM _ (AV.bool b :: bls l) = _
  rw [List.mapM_cons,xFa,this]; rfl
theorem xQc (l : List Bool) : List.take l.length (bls l) = bls l := List.take_of_length_le (by rw [xAe]; omega)
def xOu (fs : List Nd) (e : Ev) (ws : List (List Nat)) : Bool := ((xCv e fs [] ws).1.getD (fs.length - 1) fQ) 0
def vL (fs : List Nd) : List Ev → List (List Nat) → List Bool
 | [],_ => []
 | e :: es,ws => xOu fs e ws :: vL fs es (xCv e fs [] ws).2
theorem xQd (fs : List Nd) : ∀ (es : List Ev) (ws : List (List Nat)),(vL fs es ws).length = es.length
 | [],_ => rfl
 | e :: es,ws => by simp [vL,xQd fs es]
def Gr (G : Heap) (v : AV) (l : List Bool) (B m sb : Nat) : Prop := (l = [] ∧ v = .sl true 0 []) ∨ ∃ o,v = .own false o 0 l.length 1 ∧ G[o]? = some (.cells false false (bls l)) ∧ l ≠ [] ∧ B ≤ o ∧ o ≠ m ∧ o ≠ sb
section
variable {fs : List Nd} {l : List Ev} {m sb B : Nat} {z : Bool}
abbrev F35 (m : Nat) (z : Bool) (l : List Ev) (r : Int) (v : AV) (i : Nat) : List AV := xJg (.sl true 0 []) (.int .i64 r) (.ptr m 0) v (.sl z l.length (evs l)) (.int .i64 (l.length : Nat)) (.int .i64 (i : Nat))
theorem D5 {p : Prop} (h : p := by first | assumption | omega | (simp only [WL,AV.isCell,xAd,xAf,xAb,xAg,xAe] <;> omega) | rfl | decide) : p := h
theorem xYb (h0 : 0 < fs.length) (hlen : fs.length ≤ 64) (hV : ∀ j,j < fs.length → Vn j (fs.getD j nd0)) (hl : l.length ≤ 64) : ∀ k i,i + k = l.length → ∀ (G : Heap) (ws : List (List Nat)) (h : Nat) (v : AV) (out : List Bool),out.length = i → Mo false fs m sb G ws h → B ≤ m → B ≤ sb → Gr G v out B m sb → ∃ (G' : Heap) (i' : Nat) (v' : AV),
  L.loop xGq xOf ⟨F35 m z l 0 v i,G⟩ = some (if (l.drop i).all xEN = true then (.exit 1,⟨F35 m z l 0 v' l.length,G'⟩) else (.ret,⟨F35 m z l 1 v' i',G'⟩)) ∧
   ((l.drop i).all xEN = true → Gr G' v' (out ++ vL fs (l.drop i) ws) B m sb) ∧ Kp B G G' := by
 intro k
 induction k with
 | zero =>
  intro i hi G ws h v out ho hm b1 b2 hg
  obtain rfl : i = l.length := by omega
  refine ⟨G,l.length,v,?_,fun _ => ?_,.refl _ _⟩
  ·rw [if_pos (by rw [List.drop_length]; rfl),xPK]
   simp (maxSteps := 30000000) (disch := first|exact D5|fail) only [xJf,WB,↓reduceIte,xEn]
  ·rw [List.drop_length]
   simpa [vL] using hg
 | succ k ih =>
  intro i hi G ws h v out ho hm b1 b2 hg
  have hlt : i < l.length := by omega
  have hltI : ((i : Nat) : Int) < (l.length : Nat) := by omega
  have em : (l.drop i).all xEN = (xEN (l.getD i ev0) && (l.drop (i + 1)).all xEN) := by
   rw [List.drop_eq_getElem_cons hlt,List.getD_eq_getElem?_getD,List.getElem?_eq_getElem hlt]
   rfl
  have ev : vL fs (l.drop i) ws = xOu fs (l.getD i ev0) ws :: vL fs (l.drop (i + 1)) (xCv (l.getD i ev0) fs [] ws).2 := by
   rw [List.drop_eq_getElem_cons hlt,List.getD_eq_getElem?_getD,List.getElem?_eq_getElem hlt]
   rfl
  rw [em,ev]
  have lm := xA4 hm.gm
  have lb := xA4 hm.gb
  generalize hn : l.getD i ev0 = e at *
  have hnv : xA2 e.z e.args = .sl e.z e.args.length (xAB e.args) := rfl
  have hm1 : Mo false fs m sb (G ++ [.cells false false (evC e)]) ws h := ⟨by rw [xAS lm]; exact hm.gm,by rw [xAS lb]; exact hm.gb,hm.ne,hm.rw,hm.h0⟩
  cases hk : xEN e with
  | false =>
   obtain ⟨G1,e1,k1⟩ := xJ7 hm1 h0 hk
   simp only [Bool.false_and,Bool.false_eq_true,if_false]
   refine ⟨G1,i,v,?_,fun h => (by cases h),(Kp.appB _ _ (by omega)).trans (k1.low (by simp; omega))⟩
   unfold evA at e1
   unfold evC at e1
   rw [hnv] at e1
   rw [xPK]
   simp (maxSteps := 30000000) (disch := first|exact D5|fail) only [xJf,WB,hltI,↓reduceIte,xDR,evC,hn,hnv,AV.cells,AV.isCell,Nat.reduceAdd,xBq,xBG,e1,Int.reduceEq,xEn]
  | true =>
   obtain ⟨G1,e1,m1,k1⟩ := xNh hm1 h0 (by omega) hV hk
   simp only [Bool.true_and]
   change L.icall (.func 24 []) [.ptr m 0,evA e] _ = some (.tup [.bool (xOu fs e ws),.int .i64 0],G1) at e1
   unfold evA at e1
   unfold evC at e1
   rw [hnv] at e1
   have l1 := k1.1
   simp only [List.length_append,List.length_cons,List.length_nil] at l1
   have kG : Kp B G G1 := (Kp.appB _ _ (by omega)).trans ((k1.low (by simp; omega)).kp b2)
   have lm1 := xA4 m1.gm
   have lb1 := xA4 m1.gb
   generalize (xCv e fs [] ws).2 = ws2 at *
   generalize xOu fs e ws = b at *
   rcases hg with ⟨rfl,rfl⟩ | ⟨o,rfl,go,hne,bo,om,os⟩
   ·have m2 : Mo false fs m sb (G1 ++ [.cells false false (bls [b])]) ws2 1 := ⟨by rw [xAS lm1]; exact m1.gm,by rw [xAS lb1]; exact m1.gb,m1.ne,m1.rw,m1.h0⟩
    obtain ⟨G',i',v',e2,g2,k2⟩ := ih (i + 1) (by omega) (G1 ++ [.cells false false (bls [b])]) ws2 1 (.own false G1.length 0 1 1) [b] (by simp at ho ⊢; omega) m2 b1 b2
     (.inr ⟨G1.length,rfl,by rw [List.getElem?_append_right (Nat.le_refl _),Nat.sub_self]; rfl,by simp,by omega,by omega,by omega⟩)
    refine ⟨G',i',v',?_,fun h => ?_,kG.trans ((Kp.appB _ _ (by omega)).trans k2)⟩
    ·have e2' : L.loop xGq xOf ⟨F35 m z l 0 (.own false G1.length 0 1 1) (i + 1),G1 ++ [.cells false false [.bool b]]⟩ = _ := e2
     rw [xPK]
     simp (maxSteps := 30000000) (disch := first|exact D5|fail) only [xJf,WB,hltI,↓reduceIte,xDR,evC,hn,hnv,AV.cells,AV.isCell,Nat.reduceAdd,xBq,xBG,e1,Nat.reduceBEq,xEn,e2']
    ·have := g2 h
     simpa using this
   ·have lo := xA4 go
    have go1 : G1[o]? = some (.cells false false (bls out)) := by rw [k1.2 o (by simp; omega) os,xAS lo]; exact go
    have lo1 := xA4 go1
    have m2 : Mo false fs m sb (G1.set o .dead ++ [.cells false false (bls (out ++ [b]))]) ws2 1 := ⟨by rw [xAS (by simpa using lm1),xBH (by omega)]; exact m1.gm,by rw [xAS (by simpa using lb1),xBH (by omega)]; exact m1.gb,m1.ne,m1.rw,m1.h0⟩
    obtain ⟨G',i',v',e2,g2,k2⟩ := ih (i + 1) (by omega) (G1.set o .dead ++ [.cells false false (bls (out ++ [b]))]) ws2 1 (.own false G1.length 0 (out.length + 1) 1) (out ++ [b]) (by simp; omega) m2 b1 b2
     (.inr ⟨G1.length,by simp,by rw [List.getElem?_append_right (by simp),List.length_set,Nat.sub_self]; rfl,by simp,by omega,by omega,by omega⟩)
    refine ⟨G',i',v',?_,fun h => ?_,kG.trans (((Kp.set bo).trans (Kp.appB _ _ (by simp; omega))).trans k2)⟩
    ·have hba : bls out ++ [.bool b] = bls (out ++ [b]) := xZZ out [b]
     have hbt := xQc out
     have hbl := xAe out
     generalize bls (out ++ [b]) = L2 at *
     generalize bls out = L1 at *
     rw [xPK]
     simp (maxSteps := 30000000) (disch := first|exact D5|fail) only [xJf,WB,hltI,↓reduceIte,xDR,evC,hn,hnv,AV.cells,AV.isCell,Nat.reduceAdd,xBq,xBG,e1,go1,Nat.reduceBEq,hbt,hba,xEn,e2]
    ·have := g2 h
     simpa using this
theorem yCu (hc : chk fs = 0) (hw : ∀ j,j < fs.length → WN (fs.getD j nd0)) (z : Bool) (l : List Ev) (hl : l.length ≤ 64) : L.pcall 12 [.sl false fs.length (nds fs),.sl z l.length (evs l)] =
  some (if l.all xEN = true then .tup [.sl l.isEmpty l.length (bls (vL fs l (zr (nT fs)))),.int .i64 0] else .tup [.sl true 0 [],.int .i64 1]) := by
 obtain ⟨h0,hlen,hV⟩ := xIk hc
 obtain ⟨G1,m,sb,h19,hm,-,-,-⟩ := xWR hc hw []
 have hl' : ¬ (64 : Int) < (l.length : Nat) := by omega
 obtain ⟨G',i',v',e1,g1,-⟩ := xYb (B := 0) (z := z) (l := l) h0 hlen hV hl l.length 0 (by omega) G1 _ 0 (.sl true 0 []) [] rfl hm (by omega) (by omega) (.inl ⟨rfl,rfl⟩)
 rw [List.drop_zero] at e1 g1
 have e1' : L.loop xGq xOf ⟨xJg (.sl true 0 []) (.int .i64 0) (.ptr m 0) (.sl true 0 []) (.sl z l.length (evs l)) (.int .i64 (l.length : Nat)) (.int .i64 0),G1⟩ = _ := e1
 cases ha : l.all xEN with
 | false =>
  rw [ha] at e1'
  simp only [Bool.false_eq_true,if_false] at e1' ⊢
  rw [yDY,a12,xAa]
  simp (disch := omega) only [WB,Nat.reduceAdd,Nat.reduceSub,h19,↓reduceIte,hl',xEn,e1']
 | true =>
  have g2 := g1 ha
  rw [ha] at e1'
  simp only [if_true,List.nil_append] at e1' g2 ⊢
  have hvl := xQd fs l (zr (nT fs))
  generalize vL fs l (zr (nT fs)) = V at *
  rcases g2 with ⟨rfl,rfl⟩ | ⟨o,rfl,go,hne,-,-,-⟩
  ·have hl0 : l = [] := List.eq_nil_of_length_eq_zero (by simpa using hvl.symm)
   have hr : AV.sl l.isEmpty l.length (bls []) = .sl true 0 [] := by subst hl0; rfl
   rw [hr]
   clear hvl
   rw [yDY,a12,xAa]
   simp (disch := omega) only [WB,Nat.reduceAdd,Nat.reduceSub,h19,↓reduceIte,hl',xEn,e1']
  ·have hbl := xAe V
   have hbt := xQc V
   have hfr := fun d H => xH4 d H V
   rw [hvl] at hbt hbl e1'
   have hem : l.isEmpty = false := by
    cases l with
    | nil => simp at hvl; exact absurd hvl hne
    | cons _ _ => rfl
   rw [hem]
   generalize bls V = L1 at *
   rw [yDY,a12,xAa]
   simp (disch := omega) only [WB,Nat.reduceAdd,Nat.reduceSub,h19,↓reduceIte,hl',xEn,e1',xAR,go,hbt,hfr]
end
def xCf (l : List Int) : List Int := l.take 4
def xJ6 (n : Nd) : Nd := { n with z := (xCf n.args).isEmpty,args := xCf n.args }
def xGx (fs : List Nd) : List Nd := (fs.take 70).map xJ6
theorem xYc (z : Bool) {l : List Int} (hl : l.length ≤ 1000) : L.pcall 26 [.sl z l.length (xAB l)] = some (.sl l.isEmpty l.length (xAB l)) := by
 cases l with
 | nil =>
  show L.pcall 26 [.sl z 0 []] = some (.sl true 0 [])
  rw [yE3,a26,xAa]
  simp (maxSteps := 30000000) (disch := first|exact D5|fail) only [WB,Nat.reduceSub,xAR]
 | cons x l =>
  have h0 : (x :: l).isEmpty = false := rfl
  have h1 : ((x :: l).length == 0) = false := rfl
  rw [h0]
  generalize x :: l = l at *
  rw [yE3,a26,xAa]
  simp (maxSteps := 30000000) (disch := first|exact D5|fail) only [WB,Nat.reduceSub,h1,xAR,W2]
def Gn (G : Heap) (v : AV) (l : List Nd) : Prop := (l = [] ∧ v = .sl true 0 []) ∨ ∃ o,v = .own false o 0 l.length 6 ∧ G[o]? = some (.cells false false (nds l)) ∧ l ≠ []
theorem xUE (a b : List Nd) : nds a ++ nds b = nds (a ++ b) := by simp [rows]
section
variable {fs : List Nd} {z : Bool}
abbrev F18 (z : Bool) (fs : List Nd) (v : AV) (i : Nat) : List AV := xTq (.sl z fs.length (nds fs)) v (.int .i64 (i : Nat))
theorem yCv : ∀ k i,i + k = min fs.length 70 → ∀ (G : Heap) (v : AV) (out : List Nd),out.length = i → Gn G v out → ∃ (G' : Heap) (v' : AV),
  L.loop xQ3 yBA ⟨F18 z fs v i,G⟩ = some (.exit 0,⟨F18 z fs v' (min fs.length 70),G'⟩) ∧ Gn G' v' (out ++ ((fs.drop i).take k).map xJ6) := by
 intro k
 induction k with
 | zero =>
  intro i hi G v out ho hg
  obtain rfl : i = min fs.length 70 := by omega
  refine ⟨G,v,?_,by simpa using hg⟩
  by_cases c : fs.length < 70
  ·have c1 : min fs.length 70 = fs.length := by omega
   rw [c1,xTr]
   simp (maxSteps := 30000000) (disch := first|exact D5|fail) only [xN8,WB,↓reduceIte,xN9]
  ·have c1 : min fs.length 70 = 70 := by omega
   rw [c1]
   by_cases c2 : fs.length = 70
   ·have c3 : ¬ ((70 : Int) < (fs.length : Nat)) := by omega
    rw [xTr]
    simp (maxSteps := 30000000) (disch := first|exact D5|fail) only [xN8,WB,c3,↓reduceIte,xN9]
    rfl
   ·have c3 : ((70 : Int) < (fs.length : Nat)) := by omega
    rw [xTr]
    simp (maxSteps := 30000000) (disch := first|exact D5|fail) only [xN8,WB,c3,↓reduceIte,xN9]
    rfl
 | succ k ih =>
  intro i hi G v out ho hg
  have hlt : i < fs.length := by omega
  have hltI : ((i : Nat) : Int) < (fs.length : Nat) := by omega
  have hlt70 : ((i : Nat) : Int) < 70 := by omega
  have em : ((fs.drop i).take (k + 1)).map xJ6 = xJ6 (fs.getD i nd0) :: ((fs.drop (i + 1)).take k).map xJ6 := by
   rw [List.drop_eq_getElem_cons hlt,List.getD_eq_getElem?_getD,List.getElem?_eq_getElem hlt]
   rfl
  rw [em]
  generalize hn : fs.getD i nd0 = n at *
  have hnv : xA2 n.z n.args = .sl n.z n.args.length (xAB n.args) := rfl
  have h49 := xYc n.z (l := xCf n.args) (by simp [xCf]; omega)
  have hcl : (xCf n.args).length = min n.args.length 4 := by simp [xCf,Nat.min_comm]
  have hmin : min ((n.args.length : Nat) : Int) 4 = ((xCf n.args).length : Nat) := by rw [hcl]; omega
  have hbd : xBh n.args.length none (some (.int .i64 ((xCf n.args).length : Nat))) none = some (0,(xCf n.args).length) := by
   rw [xDN (Int.natCast_nonneg _) (by rw [hcl]; omega)]
   simp
  have htk : xAB (List.take (xCf n.args).length n.args) = xAB (xCf n.args) := by
   congr 1
   rw [hcl]
   unfold xCf
   by_cases c : n.args.length ≤ 4
   ·rw [Nat.min_eq_left c,List.take_of_length_le (Nat.le_refl _),List.take_of_length_le c]
   ·rw [Nat.min_eq_right (by omega)]
  have hC : (xJ6 n).c = [.int .u8 (n.op : Nat),.int .i64 n.name,.sl (xCf n.args).isEmpty (xCf n.args).length (xAB (xCf n.args)),.int .i64 n.x,.int .i64 n.a,.int .i64 n.b] := rfl
  rcases hg with ⟨rfl,rfl⟩ | ⟨o,rfl,go,hne⟩
  ·obtain ⟨G',v',e1,g1⟩ := ih (i + 1) (by omega) (G ++ [.cells false false (xJ6 n).c,.cells false false (nds [xJ6 n])]) (.own false (G.length + 1) 0 1 6) [xJ6 n] (by simp at ho ⊢; omega)
    (.inr ⟨G.length + 1,rfl,by rw [List.getElem?_append_right (by omega)]; simp,by simp⟩)
   refine ⟨G',v',?_,by simpa using g1⟩
   have hN : nds [xJ6 n] = (xJ6 n).c := by simp [rows]
   rw [hN,hC] at e1
   generalize xCf n.args = l4 at *
   rw [xTr]
   simp (maxSteps := 30000000) (disch := first|exact D5|fail) only [xN8,WB,hltI,↓reduceIte,hlt70,xAs,Nd.c,hn,hnv,AV.cells,AV.isCell,Nat.reduceAdd,xBq,xBG,hmin,hbd,W2,htk,h49,xAA,xAm,Nat.reduceMul,Nat.reduceBEq,xN9,e1]
  ·have lo := xA4 go
   obtain ⟨G',v',e1,g1⟩ := ih (i + 1) (by omega) (G.set o .dead ++ [.cells false false (xJ6 n).c,.cells false false (nds (out ++ [xJ6 n]))]) (.own false (G.length + 1) 0 (out.length + 1) 6) (out ++ [xJ6 n]) (by simp; omega)
    (.inr ⟨G.length + 1,by simp,by rw [List.getElem?_append_right (by simp)]; simp,by simp⟩)
   refine ⟨G',v',?_,by simpa using g1⟩
   have hN : nds out ++ (xJ6 n).c = nds (out ++ [xJ6 n]) := by rw [← xUE]; simp [rows]
   rw [hC] at e1 hN
   have hnl := xAb out
   have hnt := xFn out
   generalize nds (out ++ [xJ6 n]) = L2 at *
   generalize nds out = L1 at *
   generalize xCf n.args = l4 at *
   have hi70 : i ≤ 70 := by omega
   rw [ho] at *
   rw [xTr]
   simp (maxSteps := 30000000) (disch := first|exact D5|fail) only [xN8,WB,hltI,↓reduceIte,hlt70,xAs,Nd.c,hn,hnv,AV.cells,AV.isCell,Nat.reduceAdd,xBq,xBG,hmin,hbd,W2,htk,h49,xAA,xAm,Nat.reduceMul,xAS,go,Nat.reduceBEq,xDp,hnt,hN,xN9,e1]
theorem yCw (z : Bool) (fs : List Nd) : L.pcall 5 [.sl z fs.length (nds fs)] = some (.sl (xGx fs).isEmpty (xGx fs).length (nds (xGx fs))) := by
 obtain ⟨G',v',e1,g1⟩ := yCv (z := z) (fs := fs) (min fs.length 70) 0 (by omega) [] (.sl true 0 []) [] rfl (.inl ⟨rfl,rfl⟩)
 have hfe : ((fs.drop 0).take (min fs.length 70)).map xJ6 = xGx fs := by
  unfold xGx
  rw [List.drop_zero]
  congr 1
  by_cases c : fs.length ≤ 70
  ·rw [Nat.min_eq_left c,List.take_of_length_le (Nat.le_refl _),List.take_of_length_le c]
  ·rw [Nat.min_eq_right (by omega)]
 rw [List.nil_append,hfe] at g1
 have e1' : L.loop xQ3 yBA ⟨xTq (.sl z fs.length (nds fs)) (.sl true 0 []) (.int .i64 0),[]⟩ = _ := e1
 generalize xGx fs = V at *
 rcases g1 with ⟨rfl,rfl⟩ | ⟨o,rfl,go,hne⟩
 ·show _ = some (AV.sl true 0 [])
  rw [a5p,a5,xAa]
  simp (disch := omega) only [WB,Nat.reduceSub,xN9,e1',↓reduceIte]
 ·have hnl := xAb V
  have hnt := xFn V
  have hfr := fun d H => xKZ d H V
  have hem : V.isEmpty = false := by
   cases V with
   | nil => exact absurd rfl hne
   | cons _ _ => rfl
  rw [hem]
  generalize nds V = L1 at *
  rw [a5p,a5,xAa]
  simp (disch := omega) only [WB,Nat.reduceSub,xN9,e1',↓reduceIte,xAR,go,hnt,hfr]
end
def Ge (G : Heap) (v : AV) (l : List Ev) : Prop := (l = [] ∧ v = .sl true 0 []) ∨ ∃ o,v = .own false o 0 l.length 2 ∧ G[o]? = some (.cells false false (evs l)) ∧ l ≠ []
theorem xUF (a b : List Ev) : evs a ++ evs b = evs (a ++ b) := by simp [rows]
theorem xGK (l : List Ev) : List.take (l.length * 2) (evs l) = evs l := List.take_of_length_le (by rw [xAg]; omega)
theorem xOv (d : Nat) (H : Heap) : ∀ l : List Ev,(evs l).mapM (frz d H) = some (evs l)
 | [] => rfl
 | e :: l => by
  have h1 : (evC e).mapM (frz d H) = some (evC e) := by
   unfold evC xA2
   simp [List.mapM_cons,xDO,xEl]
  exact mapM_append' h1 (xOv d H l)
end Go.Abs.Events
