/- open. -/
import Derived.Test.YtdheandekcpieaaDoorAbsBun
import Derived.Test.YtdheandekcpieaaDoorAMC
namespace Go.Abs.Events
open Go Go.Abs
set_option maxHeartbeats 4000000
set_option linter.unusedSimpArgs false
set_option linter.unusedVariables false
theorem yDv {w : Nat} (hw : w < 18446744073709551616) (k : Nat) : xDk .and .u64 (((w : Nat) : Int).fdiv (2 ^ k)) 1 = ((w.testBit k).toNat : Nat) := by
 have e1 : ((w : Nat) : Int).fdiv (2 ^ k) = ((w / 2 ^ k : Nat) : Int) := by
  have : ((2 : Int) ^ k) = ((2 ^ k : Nat) : Int) := by simp
  rw [this,Int.fdiv_eq_ediv_of_nonneg _ (Int.natCast_nonneg _)]
  exact (Int.natCast_ediv _ _).symm
 have h2 : w / 2 ^ k < 18446744073709551616 := Nat.lt_of_le_of_lt (Nat.div_le_self _ _) hw
 rw [e1,show (1 : Int) = ((1 : Nat) : Int) from rfl,xXx h2 (by decide)]
 congr 1
 rw [Nat.testBit,Nat.shiftRight_eq_div_pow]
 have hb : 1 &&& (w / 2 ^ k) = (w / 2 ^ k) % 2 := by rw [Nat.and_comm,Nat.and_one_is_mod]
 rw [hb,Nat.and_one_is_mod]
 rcases Nat.mod_two_eq_zero_or_one (w / 2 ^ k) with e | e <;> rw [e] <;> rfl
section
variable {fz z : Bool} {fs : List Nd} {l : List Int} {bd p : Nat} {G : Heap} {s0 : AV}
theorem xZ3 (hbd : bd < 8) (hl : l.length ≤ 100) (har : ∀ t ∈ l,0 ≤ t ∧ t ≤ 10) : ∀ k i,i + k = l.length → ∃ i' : Nat,
  L.loop xGo xNW ⟨xD3 s0 (.int .u64 (bd : Nat)) (.bool false) (.ptr p 0) (.sl z l.length (xAG l)) (.int .i64 (l.length : Nat)) (.int .i64 (i : Nat)),G⟩ =
   some (if xKt bd (l.drop i) = true then (.ret,⟨xD3 s0 (.int .u64 (bd : Nat)) (.bool true) (.ptr p 0) (.sl z l.length (xAG l)) (.int .i64 (l.length : Nat)) (.int .i64 (i' : Nat)),G⟩)
    else (.exit 0,⟨xD3 s0 (.int .u64 (bd : Nat)) (.bool false) (.ptr p 0) (.sl z l.length (xAG l)) (.int .i64 (l.length : Nat)) (.int .i64 (i' : Nat)),G⟩)) := by
 intro k
 induction k with
 | zero =>
  intro i hi
  obtain rfl : i = l.length := by omega
  refine ⟨l.length,?_⟩
  rw [if_neg (by rw [List.drop_length]; simp [xKt]),xGp]
  simp (maxSteps := 30000000) (disch := first|exact D4|fail) only [xEz,WB,↓reduceIte,xBp]
 | succ k ih =>
  intro i hi'
  have hlt : (i : Int) < (l.length : Nat) := by omega
  have hl1 : i < l.length := by omega
  obtain ⟨i',ih'⟩ := ih (i + 1) (by omega)
  have em : xKt bd (l.drop i) = ((decide (8 ≤ l.getD i 0) && !(bd.testBit ((l.getD i 0).toNat - 8))) || xKt bd (l.drop (i + 1))) := by
   rw [List.drop_eq_getElem_cons hl1,List.getD_eq_getElem?_getD,List.getElem?_eq_getElem hl1]
   rfl
  have hm : l.getD i 0 ∈ l := by rw [List.getD_eq_getElem?_getD,List.getElem?_eq_getElem hl1]; exact List.getElem_mem hl1
  have hr := har _ hm
  rw [em]
  generalize hN : l.getD i 0 = t at *
  by_cases c1 : 8 ≤ t
  ·have hs : min (t - 8).toNat IntKind.u64.bits = t.toNat - 8 := by
    rw [Nat.min_eq_left (by show _ ≤ 64; omega)]; omega
   have hb := yDv (w := bd) (by omega) (t.toNat - 8)
   have hs0 : (0 : Int) ≤ t - 8 := by omega
   cases hbit : bd.testBit (t.toNat - 8) with
   | true =>
    rw [hbit] at hb
    simp only [c1,decide_true,Bool.true_and,Bool.not_true,Bool.false_or]
    refine ⟨i',?_⟩
    rw [xGp]
    simp (maxSteps := 30000000) (disch := first|exact D4|fail) only [xEz,WB,hlt,↓reduceIte,W2,hN,c1,hs,hb,Bool.toNat_true,Int.reduceEq,xBp,ih']
   | false =>
    rw [hbit] at hb
    simp only [c1,decide_true,Bool.true_and,Bool.not_false,Bool.true_or,if_true]
    refine ⟨i,?_⟩
    rw [xGp]
    simp (maxSteps := 30000000) (disch := first|exact D4|fail) only [xEz,WB,hlt,↓reduceIte,W2,hN,c1,hs,hb,Bool.toNat_false,xBp]
  ·simp only [c1,decide_false,Bool.false_and,Bool.false_or]
   refine ⟨i',?_⟩
   rw [xGp]
   simp (maxSteps := 30000000) (disch := first|exact D4|fail) only [xEz,WB,hlt,↓reduceIte,W2,hN,c1,xBp,ih']
theorem xZ4 {a b : Nat} (ha : a < 8) (hb : b < 8) : a ||| b < 8 := Nat.or_lt_two_pow (n := 3) ha hb
theorem pw8 {x : Int} (h : x = 8 ∨ x = 9 ∨ x = 10) : 2 ^ (x.toNat - 8) < 8 := by rcases h with rfl | rfl | rfl <;> decide
theorem xW0 {n : Nd} {i : Nat} (hv : Vn i n) (h : bd < 8) : bnd n bd < 8 := by
 unfold bnd
 split
 ·rename_i c
  exact xZ4 h (pw8 (hv.ex c))
 ·exact h
theorem xZ5 (hlen : fs.length ≤ 64) (hV : ∀ j,j < fs.length → Vn j (fs.getD j nd0)) : ∀ (k i bd : Nat),i < k → i < fs.length → bd < 8 →
  L.pcall 42 [.sl fz fs.length (nds fs),.int .i64 (i : Nat),.int .u64 (bd : Nat)] = some (.bool (opn fs k i bd)) := by
 intro k
 induction k with
 | zero => intro i bd h; omega
 | succ k ih =>
  intro i bd hik hi hbd
  have hv := hV i hi
  rw [opn]
  generalize hn : fs.getD i nd0 = n at *
  obtain ⟨i',e1⟩ := xZ3 (s0 := .sl fz fs.length (nds fs)) (z := n.z) (p := 0) (G := [.cells false false n.c]) hbd hv.al hv.ar n.args.length 0 (by omega)
  rw [List.drop_zero] at e1
  have h68 := xOc n.op
  have hch : List.take 1 (List.drop 1 (foC n.op)) = [.int .i64 (chn n.op : Nat)] := rfl
  have hfl : (foC n.op).length = 6 := rfl
  generalize foC n.op = C at *
  have hnv : xBW n.z n.args = .sl n.z n.args.length (xAG n.args) := rfl
  unfold Nd.c at e1
  rw [hnv] at e1
  have e1' : L.loop xGo xNW ⟨xD3 (.sl fz fs.length (nds fs)) (.int .u64 (bd : Nat)) (.bool false) (.ptr 0 0) (.sl n.z n.args.length (xAG n.args)) (.int .i64 (n.args.length : Nat)) (.int .i64 0),[.cells false false [.int .u8 (n.op : Nat),.int .i64 n.name,.sl n.z n.args.length (xAG n.args),.int .i64 n.x,.int .i64 n.a,.int .i64 n.b]]⟩ = _ := e1
  cases hA : xKt bd n.args with
  | true =>
   rw [hA] at e1'
   simp only [if_true,Bool.true_or] at e1' ⊢
   rw [xWT,a42,xAe]
   simp (maxSteps := 30000000) (disch := first|exact D4|fail) only [WB,Nat.reduceAdd,Nat.reduceSub,xAP,Nd.c,hn,hnv,AV.cells,AV.isCell,↓reduceIte,xBp,e1']
  | false =>
   rw [hA] at e1'
   simp only [Bool.false_eq_true,if_false,Bool.false_or] at e1' ⊢
   have hbl := xW0 hv hbd
   have hrec : ∀ j : Nat,j < i → L.pcall 42 [.sl fz fs.length (nds fs),.int .i64 (j : Nat),.int .u64 (bnd n bd : Nat)] = some (.bool (opn fs k j (bnd n bd))) := fun j hj => ih j _ (by omega) (by omega) hbl
   have hca := hv.ca
   have hcb := hv.cb
   have hc2 := xBF n.op
   by_cases c7 : n.op = 7
   ·have c7' : (((n.op : Nat) : Int) = 7) = True := eq_true (by omega)
    have hx := hv.ex c7
    have hc1 : chn n.op = 1 := by rw [c7]; rfl
    have ha := xAU (hca (by omega))
    have hra := hrec _ ha.2
    rw [← ha.1] at hra
    have hs0 : (0 : Int) ≤ n.x - 8 := by omega
    have hbe : bnd n bd = bd ||| 2 ^ (n.x.toNat - 8) := by unfold bnd; rw [if_pos c7]
    have hsh : IntKind.u64.wrap (1 * 2 ^ min (n.x - 8).toNat IntKind.u64.bits) = ((2 ^ (n.x.toNat - 8) : Nat) : Int) := by
     rw [xYE (by omega),show (n.x - 8).toNat = n.x.toNat - 8 by omega]
    have hor : xDk .or .u64 (bd : Nat) ((2 ^ (n.x.toNat - 8) : Nat) : Int) = ((bnd n bd : Nat) : Int) := by
     rw [hbe,xZD (by omega) (Nat.lt_of_lt_of_le (pw8 hx) (by omega))]
    have hch' : (chn n.op : Nat) = 1 := hc1
    rw [hch'] at hch ⊢
    generalize bnd n bd = bd2 at *
    generalize opn fs k n.a.toNat bd2 = r at *
    cases r with
    | true =>
     rw [xWT,a42,xAe]
     simp (maxSteps := 30000000) (disch := first|exact D4|fail) only [WB,Nat.reduceAdd,Nat.reduceSub,xAP,Nd.c,hn,hnv,AV.cells,AV.isCell,↓reduceIte,xBp,e1',c7',hsh,hor,h68,xAN,hch,Int.reduceLT,hra,xAt,Nat.reduceLT]
    | false =>
     rw [xWT,a42,xAe]
     simp (maxSteps := 30000000) (disch := first|exact D4|fail) only [WB,Nat.reduceAdd,Nat.reduceSub,xAP,Nd.c,hn,hnv,AV.cells,AV.isCell,↓reduceIte,xBp,e1',c7',hsh,hor,h68,xAN,hch,Int.reduceLT,hra,xAt,Nat.reduceLT]
   ·have c7' : ¬ ((n.op : Nat) : Int) = 7 := by omega
    have hbe : bnd n bd = bd := by unfold bnd; rw [if_neg c7]
    rw [hbe] at hrec ⊢
    rcases hc2 with hc | hc | hc
    ·rw [hc] at hch ⊢
     rw [xWT,a42,xAe]
     simp (maxSteps := 30000000) (disch := first|exact D4|fail) only [WB,Nat.reduceAdd,Nat.reduceSub,xAP,Nd.c,hn,hnv,AV.cells,AV.isCell,↓reduceIte,xBp,e1',c7',h68,xAN,hch,Int.reduceLT,Nat.reduceLT]
    ·have ha := xAU (hca (by omega))
     have hra := hrec _ ha.2
     rw [← ha.1] at hra
     rw [hc] at hch ⊢
     generalize opn fs k n.a.toNat bd = r at *
     cases r with
     | true =>
      rw [xWT,a42,xAe]
      simp (maxSteps := 30000000) (disch := first|exact D4|fail) only [WB,Nat.reduceAdd,Nat.reduceSub,xAP,Nd.c,hn,hnv,AV.cells,AV.isCell,↓reduceIte,xBp,e1',c7',h68,xAN,hch,Int.reduceLT,hra,xAt,Nat.reduceLT]
     | false =>
      rw [xWT,a42,xAe]
      simp (maxSteps := 30000000) (disch := first|exact D4|fail) only [WB,Nat.reduceAdd,Nat.reduceSub,xAP,Nd.c,hn,hnv,AV.cells,AV.isCell,↓reduceIte,xBp,e1',c7',h68,xAN,hch,Int.reduceLT,hra,xAt,Nat.reduceLT]
    ·have ha := xAU (hca (by omega))
     have hra := hrec _ ha.2
     rw [← ha.1] at hra
     have hb := xAU (hcb hc)
     have hrb := hrec _ hb.2
     rw [← hb.1] at hrb
     rw [hc] at hch ⊢
     generalize opn fs k n.a.toNat bd = r at *
     generalize opn fs k n.b.toNat bd = r2 at *
     cases r with
     | true =>
      rw [xWT,a42,xAe]
      simp (maxSteps := 30000000) (disch := first|exact D4|fail) only [WB,Nat.reduceAdd,Nat.reduceSub,xAP,Nd.c,hn,hnv,AV.cells,AV.isCell,↓reduceIte,xBp,e1',c7',h68,xAN,hch,Int.reduceLT,hra,xAt,Nat.reduceLT]
     | false =>
      rw [xWT,a42,xAe]
      simp (maxSteps := 30000000) (disch := first|exact D4|fail) only [WB,Nat.reduceAdd,Nat.reduceSub,xAP,Nd.c,hn,hnv,AV.cells,AV.isCell,↓reduceIte,xBp,e1',c7',h68,xAN,hch,Int.reduceLT,hra,xAt,hrb,Nat.reduceLT]
end
def xM3 : List Nd → List Nat → Nat
 | n :: fs,s :: ss => if xTG n s = 0 then xM3 fs ss else xTG n s
 | _,_ => 0
def chk (fs : List Nd) : Nat :=
 if fs.length = 0 then 3 else if 64 < fs.length then 4
 else if xM3 fs (szs fs []) = 0 then
  (if (szs fs []).getD (fs.length - 1) 0 = fs.length then (if opn fs fs.length (fs.length - 1) 0 = true then 11 else 0) else 2)
 else xM3 fs (szs fs [])
theorem wi_iff {lo hi : Int} {l : List Int} : wi lo hi l = true ↔ ∀ t ∈ l,lo ≤ t ∧ t ≤ hi := by
 unfold wi
 rw [List.all_eq_true]
 constructor
 ·intro h t ht
  simpa using h t ht
 ·intro h t ht
  simpa using h t ht
theorem xZ6 {op : Nat} (h : ((fnm op).toList == (⟨#[]⟩ : ByteArray).toList) = false) : 1 ≤ op ∧ op ≤ 10 := by
 by_cases c : 1 ≤ op ∧ op ≤ 10
 ·exact c
 ·exfalso
  have : fnm op = ⟨#[]⟩ := by
   unfold fnm
   simp [show op ≠ 1 by omega,show op ≠ 2 by omega,show op ≠ 3 by omega,show op ≠ 4 by omega,show op ≠ 5 by omega,show op ≠ 6 by omega,show op ≠ 7 by omega,show op ≠ 8 by omega,show op ≠ 9 by omega,show op ≠ 10 by omega]
  rw [this] at h
  simp at h
theorem xZ7 {n : Nd} {os : List Nat} (hI : ∀ k,k < os.length → os.getD k 0 ≤ k + 1) (h : szN n os ≠ 0) : (1 ≤ chn n.op → 0 ≤ n.a ∧ n.a < os.length) ∧ (chn n.op = 2 → 0 ≤ n.b ∧ n.b < os.length) := by
 unfold szN at h
 split at h
 ·constructor <;> intro q <;> omega
 split at h
 ·exact absurd rfl h
 rename_i h1
 rw [not_or] at h1
 split at h
 ·split at h
  ·rename_i q
   refine ⟨fun _ => ?_,fun _ => ?_⟩ <;> omega
  ·exact absurd rfl h
 split at h
 ·exact absurd rfl h
 split at h
 ·rename_i q
  refine ⟨fun _ => ?_,fun _ => ?_⟩ <;> omega
 ·exact absurd rfl h
theorem xZ8 {n : Nd} {os : List Nat} (hI : ∀ k,k < os.length → os.getD k 0 ≤ k + 1) (h : xTG n (szN n os) = 0) : Vn os.length n := by
 unfold xTG at h
 split at h
 ·cases h
 rename_i h0
 split at h
 ·cases h
 rename_i h1
 split at h
 ·cases h
 rename_i h2
 have ho := xZ6 (by simpa using h0)
 unfold yCu at h1
 unfold yCv at h2
 simp only [Bool.or_eq_true,Bool.and_eq_true,not_or,not_and,Bool.not_eq_true',decide_eq_true_eq,decide_eq_false_iff_not,Bool.not_eq_true,Bool.not_eq_false,Bool.not_eq_eq_eq_not,Bool.not_false,Bool.not_true] at h1 h2
 obtain ⟨⟨⟨⟨q1,q2⟩,q3⟩,q4⟩,q5⟩ := h1
 obtain ⟨⟨r1,r2⟩,r3⟩ := h2
 have hs := xZ7 hI (by simpa using q3)
 have hhi := xCf n.op
 have q4' : ¬ n.args.length < flo n.op := by simpa using q4
 have q5' : ¬ fhi n.op < n.args.length := by simpa using q5
 refine ⟨ho,by omega,?_,?_,?_,hs.1,hs.2⟩
 ·exact wi_iff.1 (by simpa using r3)
 ·intro e
  rw [e] at q4' q5'
  have e1 : flo 3 = 2 := rfl
  have e2 : fhi 3 = 2 := rfl
  omega
 ·intro e
  have := wi_iff.1 (show wi 8 10 [n.x] = true by simpa using r2 e) n.x (by simp)
  omega
theorem xPI : ∀ (fs : List Nd) (os : List Nat),(szs fs os).take os.length = os
 | [],os => by simp [szs]
 | n :: fs,os => by
  rw [szs]
  have := xPI fs (os ++ [szN n os])
  have h2 := congrArg (List.take os.length) this
  rw [List.take_take,List.length_append,Nat.min_eq_left (by omega),List.take_append_of_le_length (Nat.le_refl _),List.take_of_length_le (Nat.le_refl _)] at h2
  exact h2
theorem xVw (n : Nd) (fs : List Nd) (os : List Nat) : (szs (n :: fs) os).drop os.length = szN n os :: (szs fs (os ++ [szN n os])).drop (os ++ [szN n os]).length := by
 rw [szs]
 have h1 := xPI fs (os ++ [szN n os])
 have hl := xKW fs (os ++ [szN n os])
 simp only [List.length_append,List.length_singleton] at h1 hl ⊢
 rw [List.drop_eq_getElem_cons (by omega)]
 congr 1
 have h3 : (List.take (os.length + 1) (szs fs (os ++ [szN n os])))[os.length]? = (os ++ [szN n os])[os.length]? := by rw [h1]
 rw [List.getElem?_take_of_lt (by omega),List.getElem?_append_right (Nat.le_refl _),Nat.sub_self,List.getElem?_eq_getElem (by omega)] at h3
 simpa using h3
theorem xTv : ∀ (fs : List Nd) (os : List Nat),(∀ k,k < os.length → os.getD k 0 ≤ k + 1) → xM3 fs ((szs fs os).drop os.length) = 0 → ∀ j,j < fs.length → Vn (os.length + j) (fs.getD j nd0)
 | [],os,hI,h,j,hj => by simp at hj
 | n :: fs,os,hI,h,j,hj => by
  rw [xVw,xM3] at h
  split at h
  ·rename_i h0
   cases j with
   | zero => exact xZ8 hI h0
   | succ j =>
    have := xTv fs (os ++ [szN n os]) (xTE hI) h j (by simpa using hj)
    rw [List.length_append,List.length_singleton] at this
    rw [show os.length + (j + 1) = os.length + 1 + j by omega]
    simpa using this
  ·contradiction
theorem xTw (n : Nd) (s : Nat) : xTG n s ≤ 6 := by unfold xTG; split <;> (try split) <;> (try split) <;> omega
theorem xTx : ∀ (fs : List Nd) (ss : List Nat),xM3 fs ss ≤ 6
 | [],_ => by simp [xM3]
 | n :: fs,[] => by simp [xM3]
 | n :: fs,s :: ss => by
  rw [xM3]
  split
  ·exact xTx fs ss
  ·exact xTw n s
theorem xYb {fs : List Nd} (h : chk fs = 0) : 0 < fs.length ∧ fs.length ≤ 64 ∧ ∀ j,j < fs.length → Vn j (fs.getD j nd0) := by
 unfold chk at h
 split at h
 ·cases h
 split at h
 ·cases h
 split at h
 ·rename_i h0
  refine ⟨by omega,by omega,fun j hj => ?_⟩
  have := xTv fs [] (by simp) (by simpa using h0) j hj
  simpa using this
 ·contradiction
section
variable {fz : Bool} {fs : List Nd} {ss : List Nat}
abbrev F34 (fz : Bool) (fs : List Nd) (ss : List Nat) (r : Int) (i : Nat) : List AV := xMJ (.sl fz fs.length (nds fs)) (.int .i64 r) (.sl false fs.length (xCW ss)) (.sl fz fs.length (nds fs)) (.int .i64 (fs.length : Nat)) (.int .i64 (i : Nat))
theorem xZ9 (hlen : fs.length ≤ 64) (hs : ss.length = fs.length) : ∀ k i,i + k = fs.length → ∀ G,∃ (i' : Nat) (G' : Heap),
  L.loop xJD xS7 ⟨F34 fz fs ss 0 i,G⟩ =
   some (if xM3 (fs.drop i) (ss.drop i) = 0 then (.exit 1,⟨F34 fz fs ss 0 fs.length,G'⟩) else (.ret,⟨F34 fz fs ss (xM3 (fs.drop i) (ss.drop i) : Nat) i',G'⟩)) := by
 intro k
 induction k with
 | zero =>
  intro i hi G
  obtain rfl : i = fs.length := by omega
  refine ⟨fs.length,G,?_⟩
  rw [if_pos (by rw [List.drop_length]; rfl),xS8]
  simp (maxSteps := 30000000) (disch := first|exact D4|fail) only [xMI,WB,↓reduceIte,xHN]
 | succ k ih =>
  intro i hi G
  have hlt : i < fs.length := by omega
  have hltI : ((i : Nat) : Int) < (fs.length : Nat) := by omega
  have em : xM3 (fs.drop i) (ss.drop i) = (if xTG (fs.getD i nd0) (ss.getD i 0) = 0 then xM3 (fs.drop (i + 1)) (ss.drop (i + 1)) else xTG (fs.getD i nd0) (ss.getD i 0)) := by
   rw [List.drop_eq_getElem_cons hlt,List.drop_eq_getElem_cons (show i < ss.length by omega),xM3,List.getD_eq_getElem?_getD,List.getElem?_eq_getElem hlt,List.getD_eq_getElem?_getD,List.getElem?_eq_getElem (by omega)]
   rfl
  rw [em]
  obtain ⟨i',G',ih'⟩ := ih (i + 1) (by omega) (G ++ [.cells false false (fs.getD i nd0).c])
  generalize hn : fs.getD i nd0 = n at *
  have h67 := xYy n (ss.getD i 0)
  have hle := xTw n (ss.getD i 0)
  have hz : ss.getD i 0 = ss.getD i 0 := rfl
  generalize hsv : ss.getD i 0 = sv at *
  have hnv : xBW n.z n.args = .sl n.z n.args.length (xAG n.args) := rfl
  unfold Nd.c at h67 ih'
  rw [hnv] at h67 ih'
  generalize hcv : xTG n sv = e at *
  by_cases c : e = 0
  ·subst c
   simp only [if_true]
   refine ⟨i',G',?_⟩
   rw [xS8]
   simp (maxSteps := 30000000) (disch := first|exact D4|fail) only [xMI,WB,hltI,↓reduceIte,xAP,Nd.c,hn,hnv,AV.cells,AV.isCell,Nat.reduceAdd,xBT,xES,xAh,hsv,h67,xAN,xAt,xHN,ih']
  ·have c' : ¬ ((e : Nat) : Int) = 0 := by omega
   simp only [if_neg c]
   refine ⟨i,G ++ [.cells false false [.int .u8 (n.op : Nat),.int .i64 n.name,.sl n.z n.args.length (xAG n.args),.int .i64 n.x,.int .i64 n.a,.int .i64 n.b]],?_⟩
   rw [xS8]
   simp (maxSteps := 30000000) (disch := first|exact D4|fail) only [xMI,WB,hltI,↓reduceIte,xAP,Nd.c,hn,hnv,AV.cells,AV.isCell,Nat.reduceAdd,xBT,xES,xAh,hsv,h67,xAN,xAt,c',xHN]
theorem xTy (fz : Bool) (fs : List Nd) (h47 : fs.length < 1000) : L.pcall 34 [.sl fz fs.length (nds fs)] = some (.int .i64 (chk fs : Nat)) := by
 unfold chk
 by_cases c1 : fs.length = 0
 ·rw [if_pos c1]
  have c1' : ((fs.length : Nat) : Int) = 0 := by omega
  rw [xZk,a34,xAe]
  simp (maxSteps := 30000000) (disch := first|exact D4|fail) only [WB,Nat.reduceSub,c1',↓reduceIte]
 have c1' : ¬ ((fs.length : Nat) : Int) = 0 := by omega
 rw [if_neg c1]
 by_cases c2 : 64 < fs.length
 ·rw [if_pos c2]
  have c2' : (64 : Int) < ((fs.length : Nat) : Int) := by omega
  rw [xZk,a34,xAe]
  simp (maxSteps := 30000000) (disch := first|exact D4|fail) only [WB,Nat.reduceSub,c1',↓reduceIte,c2']
 have c2' : ¬ (64 : Int) < ((fs.length : Nat) : Int) := by omega
 rw [if_neg c2]
 have h66 := xYx (fz := fz) (show fs.length ≤ 64 by omega)
 have hsl := xKW fs []
 have hv0 := xTv fs [] (by simp)
 have hle := xTx fs (szs fs [])
 have hend : xM3 fs (szs fs []) = 0 → ∀ j,j < fs.length → Vn j (fs.getD j nd0) := by
  intro h0 j hj
  have := hv0 (by simpa using h0) j hj
  simpa using this
 simp only [List.length_nil,Nat.zero_add] at hsl
 generalize szs fs [] = ss at *
 obtain ⟨i',G',e1⟩ := xZ9 (fz := fz) (show fs.length ≤ 64 by omega) hsl fs.length 0 (by omega) []
 simp only [List.drop_zero] at e1
 have e1' : L.loop xJD xS7 ⟨xMJ (.sl fz fs.length (nds fs)) (.int .i64 0) (.sl false fs.length (xCW ss)) (.sl fz fs.length (nds fs)) (.int .i64 (fs.length : Nat)) (.int .i64 0),[]⟩ = _ := e1
 by_cases c3 : xM3 fs ss = 0
 ·rw [if_pos c3] at e1' ⊢
  have h42 := xZ5 (fz := fz) (show fs.length ≤ 64 by omega) (hend c3) fs.length (fs.length - 1) 0 (by omega) (by omega) (by omega)
  have hsub : ((fs.length : Nat) : Int) - 1 = ((fs.length - 1 : Nat) : Int) := by omega
  have h42 : L.pcall 42 [.sl fz fs.length (nds fs),.int .i64 (fs.length - 1 : Nat),.int .u64 0] = _ := h42
  generalize hsv : ss.getD (fs.length - 1) 0 = v
  by_cases c4 : v = fs.length
  ·rw [if_pos c4]
   have c4' : (((v : Nat) : Int) = (fs.length : Nat)) = True := eq_true (by omega)
   cases ho : opn fs fs.length (fs.length - 1) 0 with
   | true =>
    rw [ho] at h42
    rw [xZk,a34,xAe]
    simp (maxSteps := 30000000) (disch := first|exact D4|fail) only [WB,Nat.reduceSub,c1',↓reduceIte,c2',h66,xAN,xAt,xHN,e1',hsub,hsv,c4',h42]
   | false =>
    rw [ho] at h42
    rw [xZk,a34,xAe]
    simp (maxSteps := 30000000) (disch := first|exact D4|fail) only [WB,Nat.reduceSub,c1',↓reduceIte,c2',h66,xAN,xAt,xHN,e1',hsub,hsv,c4',h42]
  ·rw [if_neg c4]
   have c4' : ¬ (((v : Nat) : Int) = (fs.length : Nat)) := by omega
   rw [xZk,a34,xAe]
   simp (maxSteps := 30000000) (disch := first|exact D4|fail) only [WB,Nat.reduceSub,c1',↓reduceIte,c2',h66,xAN,xAt,xHN,e1',hsub,hsv,c4']
 ·rw [if_neg c3] at e1' ⊢
  generalize xM3 fs ss = r at *
  rw [xZk,a34,xAe]
  simp (maxSteps := 30000000) (disch := first|exact D4|fail) only [WB,Nat.reduceSub,c1',↓reduceIte,c2',h66,xAN,xAt,xHN,e1']
end
def WN (n : Nd) : Prop := n.z = n.args.isEmpty
theorem xYc {z : Bool} {l : List Int} (hz : z = l.isEmpty) (hl : l.length ≤ 1000) : L.pcall 83 [.sl z l.length (xAG l)] = some (.sl z l.length (xAG l)) := by
 cases l with
 | nil =>
  subst hz
  show L.pcall 83 [.sl true 0 []] = some (.sl true 0 [])
  rw [yDs,a83,xAe]
  simp (maxSteps := 30000000) (disch := first|exact D4|fail) only [WB,Nat.reduceSub,↓reduceIte]
 | cons x l =>
  subst hz
  have h0 : (x :: l).isEmpty = false := rfl
  rw [h0]
  generalize x :: l = l at *
  rw [yDs,a83,xAe]
  simp (maxSteps := 30000000) (disch := first|exact D4|fail) only [WB,Nat.reduceSub,↓reduceIte,AV.cells,xCi,W2]
theorem xVx {l : List AV} {k : Nat} {x : AV} (h : l[k]? = some x) : List.take k l ++ (x :: List.drop (k + 1) l) = l := by
 obtain ⟨hk,hx⟩ := List.getElem?_eq_some_iff.1 h
 rw [← hx,← List.drop_eq_getElem_cons hk,List.take_append_drop]
theorem xYd {fs : List Nd} {i : Nat} (h : i < fs.length) : (nds fs)[i * 6 + 2]? = some (xBW (fs.getD i nd0).z (fs.getD i nd0).args) := by
 have h1 := xAP h
 have h2 := congrArg (fun l => l[2]?) h1
 simp only [List.getElem?_take_of_lt (show 2 < 6 by omega),List.getElem?_drop] at h2
 rw [h2]; rfl
theorem xYe (d : Nat) (H : Heap) (n : Nd) : n.c.mapM (frz d H) = some n.c := by
 unfold Nd.c xBW
 simp [List.mapM_cons,xCV,xDY]
theorem xN9 (d : Nat) (H : Heap) : ∀ l : List Nd,(nds l).mapM (frz d H) = some (nds l)
 | [] => rfl
 | n :: l => mapM_append' (xYe d H n) (xN9 d H l)
theorem xKT (l : List Nd) : List.take (l.length * 6) (nds l) = nds l := List.take_of_length_le (by rw [xAa]; omega)
theorem xPJ : ∀ l : List Nd,(nds l).all xCr = true
 | [] => rfl
 | n :: l => by
  show (n.c ++ nds l).all xCr = true
  rw [List.all_append,xPJ l]
  simp [Nd.c,xBW,xCr]
section
variable {fs : List Nd} {ob : Nat}
abbrev F50 (fs : List Nd) (ob i : Nat) : List AV := xMM (.own false ob 0 fs.length 6) (.own false ob 0 fs.length 6) (.int .i64 (fs.length : Nat)) (.int .i64 (i : Nat))
theorem yAa (hlen : fs.length ≤ 64) (hw : ∀ j,j < fs.length → WN (fs.getD j nd0)) (ha : ∀ j,j < fs.length → (fs.getD j nd0).args.length ≤ 1000) : ∀ k i,i + k = fs.length → ∀ G : Heap,G[ob]? = some (.cells false false (nds fs)) → ∃ G' : Heap,
  L.loop xJN xTd ⟨F50 fs ob i,G⟩ = some (.exit 0,⟨F50 fs ob fs.length,G'⟩) ∧ G'[ob]? = some (.cells false false (nds fs)) := by
 intro k
 induction k with
 | zero =>
  intro i hi G go
  obtain rfl : i = fs.length := by omega
  refine ⟨G,?_,go⟩
  rw [xWQ]
  simp (maxSteps := 30000000) (disch := first|exact D4|fail) only [xPA,WB,↓reduceIte,xTe]
 | succ k ih =>
  intro i hi G go
  have hlt : i < fs.length := by omega
  have hltI : ((i : Nat) : Int) < (fs.length : Nat) := by omega
  have lo := xAp go
  obtain ⟨G',e1,g1⟩ := ih (i + 1) (by omega) (G ++ [.cells false false (fs.getD i nd0).c]) (by rw [xA1 lo]; exact go)
  refine ⟨G',?_,g1⟩
  have hput := xVx (xYd hlt)
  have h83 := xYc (hw i hlt) (ha i hlt)
  have hset : G.set ob (.cells false false (nds fs)) = G := by
   obtain ⟨hk,hx⟩ := List.getElem?_eq_some_iff.1 go
   rw [← hx,List.set_getElem_self]
  generalize hn : fs.getD i nd0 = n at *
  have hnv : xBW n.z n.args = .sl n.z n.args.length (xAG n.args) := rfl
  unfold Nd.c at e1
  rw [hnv] at e1 hput
  rw [xWQ]
  simp (maxSteps := 30000000) (disch := first|exact D4|fail) only [xPA,WB,hltI,↓reduceIte,go,xAP,Nd.c,hn,hnv,AV.cells,AV.isCell,Nat.reduceAdd,xBT,xES,h83,xAN,xAt,xA1,hput,xEm,hset,xTe,e1]
theorem xYf (h0 : 0 < fs.length) (hlen : fs.length ≤ 64) : xDy L 82 [.sl false fs.length (nds fs)] = some (.own false 0 0 fs.length 6,[.cells false false (nds fs)]) := by
 rw [xSB,yD4,a82,xAj]
 simp (maxSteps := 30000000) (disch := first|exact D4|fail) only [WB,Nat.reduceSub,↓reduceIte,AV.cells,Nat.zero_mul,WP,xPJ]
theorem xVy (h0 : 0 < fs.length) (hlen : fs.length ≤ 64) (hw : ∀ j,j < fs.length → WN (fs.getD j nd0)) (ha : ∀ j,j < fs.length → (fs.getD j nd0).args.length ≤ 1000) : L.pcall 50 [.sl false fs.length (nds fs)] = some (.sl false fs.length (nds fs)) := by
 have h82 := xYf h0 hlen
 obtain ⟨G',e1,g1⟩ := yAa (ob := 0) hlen hw ha fs.length 0 (by omega) [.cells false false (nds fs)] rfl
 have e1' : L.loop xJN xTd ⟨xMM (.own false 0 0 fs.length 6) (.own false 0 0 fs.length 6) (.int .i64 (fs.length : Nat)) (.int .i64 0),[.cells false false (nds fs)]⟩ = _ := e1
 rw [yDX,a50,xAe]
 simp (maxSteps := 30000000) (disch := first|exact D4|fail) only [WB,Nat.reduceSub,WP,h82,xCH,xLE,xGA,xTe,e1',↓reduceIte,xCi,g1,xKT,xN9]
end
def nT (l : List Nd) : Nat := (l.filter fun n => tmp n.op).length
def zr (c : Nat) : List (List Nat) := List.replicate c (List.replicate 64 0)
theorem xYg (c : Nat) : (zr c).flatten = List.replicate (64 * c) 0 := by
 unfold zr
 rw [List.flatten_replicate_replicate,Nat.mul_comm]
theorem xYh (fs : List Nd) : Rows fs (zr (nT fs)) := by
 refine ⟨by simp [zr,nT],fun w hw => ?_⟩
 have := List.eq_of_mem_replicate hw
 subst this
 refine ⟨by simp,fun x hx => ?_⟩
 have := List.eq_of_mem_replicate hx
 omega
theorem yCt (l : List Nd) : nT l ≤ l.length := List.length_filter_le _ _
theorem xYi {fs : List Nd} {i : Nat} (h : i < fs.length) : nT (fs.take (i + 1)) = nT (fs.take i) + (if tmp (fs.getD i nd0).op = true then 1 else 0) := by
 rw [List.take_succ_eq_append_getElem h]
 unfold nT
 rw [List.filter_append,List.length_append,List.getD_eq_getElem?_getD,List.getElem?_eq_getElem h]
 congr 1
 simp only [List.filter_cons,List.filter_nil,Option.getD_some]
 split <;> rfl
section
variable {fs : List Nd} {m B : Nat}
abbrev F19 (fs : List Nd) (m i : Nat) : List AV := xME (.ptr m 0) (.sl false fs.length (nds fs)) (.int .i64 (fs.length : Nat)) (.int .i64 (i : Nat))
theorem yAb (hlen : fs.length ≤ 64) (hV : ∀ j,j < fs.length → Vn j (fs.getD j nd0)) (hB : B ≤ m) : ∀ k i,i + k = fs.length → ∀ (G : Heap) (sb c : Nat),c = nT (fs.take i) → B ≤ sb → m ≠ sb →
  G[m]? = some (.cells false false [.sl false fs.length (nds fs),.own false sb 0 (64 * c + 1) 1]) → G[sb]? = some (.cells false false (bs (List.replicate (64 * c + 1) 0))) → ∃ (G' : Heap) (sb' : Nat),
  L.loop xJy xS4 ⟨F19 fs m i,G⟩ = some (.exit 0,⟨F19 fs m fs.length,G'⟩) ∧ B ≤ sb' ∧ m ≠ sb' ∧ Kp B G G' ∧
   G'[m]? = some (.cells false false [.sl false fs.length (nds fs),.own false sb' 0 (64 * nT fs + 1) 1]) ∧ G'[sb']? = some (.cells false false (bs (List.replicate (64 * nT fs + 1) 0))) := by
 intro k
 induction k with
 | zero =>
  intro i hi G sb c hc h1 h2 gm gb
  obtain rfl : i = fs.length := by omega
  rw [List.take_length] at hc
  subst hc
  refine ⟨G,sb,?_,h1,h2,.refl _ _,gm,gb⟩
  rw [xS5]
  simp (maxSteps := 30000000) (disch := first|exact D4|fail) only [xMD,WB,↓reduceIte,xPw]
 | succ k ih =>
  intro i hi G sb c hc h1 h2 gm gb
  have hlt : i < fs.length := by omega
  have hltI : ((i : Nat) : Int) < (fs.length : Nat) := by omega
  have lm := xAp gm
  have lb := xAp gb
  have hs := xYi hlt
  have hcl : c ≤ 64 := by
   rw [hc]
   have := yCt (fs.take i)
   rw [List.length_take] at this
   omega
  have h51 := xYz (hV i hlt).op
  generalize hn : fs.getD i nd0 = n at *
  have hnv : xBW n.z n.args = .sl n.z n.args.length (xAG n.args) := rfl
  cases ht : tmp n.op with
  | false =>
   rw [ht] at h51 hs
   simp only [Bool.false_eq_true,if_false,Nat.add_zero] at hs
   obtain ⟨G',sb',e1,q1,q2,q3,q4,q5⟩ := ih (i + 1) (by omega) (G ++ [.cells false false n.c]) sb c (hc.trans hs.symm) h1 h2 (by rw [xA1 lm]; exact gm) (by rw [xA1 lb]; exact gb)
   refine ⟨G',sb',?_,q1,q2,(Kp.appB _ _ (by omega)).trans q3,q4,q5⟩
   unfold Nd.c at e1
   rw [hnv] at e1
   rw [xS5]
   simp (maxSteps := 30000000) (disch := first|exact D4|fail) only [xMD,WB,hltI,↓reduceIte,xAP,Nd.c,hn,hnv,AV.cells,AV.isCell,Nat.reduceAdd,xBT,xES,h51,xAN,xAt,xPw,e1]
  | true =>
   rw [ht] at h51 hs
   simp only [if_true] at hs
   have hrep : List.replicate (64 * c + 1) 0 ++ List.replicate 64 0 = List.replicate (64 * (c + 1) + 1) 0 := by
    rw [List.replicate_append_replicate]; congr 1
   obtain ⟨G',sb',e1,q1,q2,q3,q4,q5⟩ := ih (i + 1) (by omega) ((G.set sb .dead).set m (.cells false false [.sl false fs.length (nds fs),.own false (G.length + 1) 0 (64 * (c + 1) + 1) 1]) ++ [.cells false false n.c,.cells false false (bs (List.replicate (64 * (c + 1) + 1) 0))]) (G.length + 1) (c + 1) (by rw [hs,hc]) (by omega) (by omega)
    (by rw [xA1 (by simpa using lm),xDD (by simpa using lm)])
    (by rw [xNj (by simp)]; simp)
   refine ⟨G',sb',?_,q1,q2,(((Kp.set h1).trans (Kp.set hB)).trans (Kp.appB _ _ (by simp; omega))).trans q3,q4,q5⟩
   unfold Nd.c at e1
   rw [hnv] at e1
   have hl1 : 64 * c + 1 + 64 = 64 * (c + 1) + 1 := by omega
   have hrz : xDl [AV.int .u8 0] 64 = bs (List.replicate 64 0) := xXz 64
   have hrl : (bs (List.replicate (64 * c + 1) 0)).length = 64 * c + 1 := by rw [xBE]; simp
   have happ : bs (List.replicate (64 * c + 1) 0) ++ bs (List.replicate 64 0) = bs (List.replicate (64 * (c + 1) + 1) 0) := by rw [← hrep]; simp [bs]
   have hms : sb ≠ m := fun q => h2 q.symm
   have htk : List.take (64 * c + 1) (bs (List.replicate (64 * c + 1) 0)) = bs (List.replicate (64 * c + 1) 0) := List.take_of_length_le (by omega)
   generalize bs (List.replicate (64 * (c + 1) + 1) 0) = L2 at *
   generalize bs (List.replicate (64 * c + 1) 0) = L1 at *
   have happz : xSj [.int .u8 0] 1 sb 0 (64 * c + 1) 1 64 (G ++ [.cells false false [.int .u8 (n.op : Nat),.int .i64 n.name,.sl n.z n.args.length (xAG n.args),.int .i64 n.x,.int .i64 n.a,.int .i64 n.b]]) (some (.cells false false L1)) =
     some (.own false (G.length + 1) 0 (64 * (c + 1) + 1) 1,(G ++ [Blk.cells false false [.int .u8 (n.op : Nat),.int .i64 n.name,.sl n.z n.args.length (xAG n.args),.int .i64 n.x,.int .i64 n.a,.int .i64 n.b]]).set sb .dead ++ [.cells false false L2]) := by
    have := xNQ (z := [.int .u8 0]) (bytes := 1) (id := sb) (k := 64 * c + 1) (m := 64) (zz := false) (cs := L1) (H := G ++ [.cells false false [.int .u8 (n.op : Nat),.int .i64 n.name,.sl n.z n.args.length (xAG n.args),.int .i64 n.x,.int .i64 n.a,.int .i64 n.b]]) (by show (64 * c + 1) * 1 ≤ _; omega) (by omega) (by omega) (by omega) rfl
    rw [hrz,hl1,List.length_append,show (64 * c + 1) * [AV.int .u8 0].length = 64 * c + 1 from Nat.mul_one _,htk,happ] at this
    exact this
   rw [xS5]
   simp (maxSteps := 30000000) (disch := first|exact D4|fail) only [xMD,WB,hltI,↓reduceIte,xAP,Nd.c,hn,hnv,AV.cells,AV.isCell,Nat.reduceAdd,xBT,xES,h51,xAN,xAt,xA1,gm,xSk,Int.reduceToNat,gb,happz,xEm,xBB,xPw,e1]
theorem xYj (h : chk fs = 0) (hw : ∀ j,j < fs.length → WN (fs.getD j nd0)) (G : Heap) : ∃ (G' : Heap) (m sb : Nat),L.icall (.func 19 []) [.sl false fs.length (nds fs)] G = some (.tup [.ptr m 0,.int .i64 0],G') ∧
  Mo false fs m sb G' (zr (nT fs)) 0 ∧ Kp G.length G G' ∧ G.length ≤ m ∧ G.length ≤ sb := by
 obtain ⟨h0,hlen,hV⟩ := xYb h
 have h34 := xTy false fs (by omega)
 rw [h] at h34
 have h34' : L.pcall 34 [.sl false fs.length (nds fs)] = some (.int .i64 0) := h34
 have h50 := xVy h0 hlen hw (fun j hj => Nat.le_trans (hV j hj).al (by omega))
 obtain ⟨G',sb',e1,q1,q2,q3,q4,q5⟩ := yAb (B := G.length) hlen hV (m := G.length + 1) (by omega) fs.length 0 (by omega) (G ++ [.cells false false [.int .u8 0],.cells false false [.sl false fs.length (nds fs),.own false G.length 0 1 1]]) G.length 0 (by simp [nT]) (by omega) (by omega)
  (by rw [xNj (by omega)]; simp) (by rw [List.getElem?_append_right (Nat.le_refl _),Nat.sub_self]; rfl)
 refine ⟨G',G.length + 1,sb',?_,⟨?_,?_,q2,xYh fs,by omega⟩,(Kp.app _ _).trans q3,by omega,q1⟩
 ·have e1' : L.loop xJy xS4 ⟨xME (.ptr (G.length + 1) 0) (.sl false fs.length (nds fs)) (.int .i64 (fs.length : Nat)) (.int .i64 0),G ++ [.cells false false [.int .u8 0],.cells false false [.sl false fs.length (nds fs),.own false G.length 0 1 1]]⟩ = _ := e1
  rw [yDP,a19,xAj]
  simp (disch := omega) only [WB,Nat.reduceSub,h34',xAN,xAt,↓reduceIte,h50,AV.cells,AV.isCell,Nat.reduceAdd,Nat.reduceLeDiff,xPw,e1']
 ·rw [q4]; simp [zr]
 ·rw [q5,xYg,show 64 * nT fs + 1 = (64 * nT fs) + 1 from rfl,List.replicate_succ]
end
def evC (e : Ev) : List AV := [.int .i64 e.name,xBW e.z e.args]
def ev0 : Ev := ⟨0,true,[]⟩
abbrev evs (l : List Ev) : List AV := rows evC l
theorem xAg (l : List Ev) : (evs l).length = l.length * 2 := xDp (enc := evC) (k := 2) (fun _ => rfl) l
theorem xTz {l : List Ev} {i : Nat} (h : i < l.length) : List.take 2 (List.drop (i * 2) (evs l)) = evC (l.getD i ev0) := by
 rw [xDX (enc := evC) (k := 2) (fun _ => rfl),List.drop_eq_getElem_cons h]
 have : rows evC (l[i] :: l.drop (i + 1)) = evC l[i] ++ rows evC (l.drop (i + 1)) := rfl
 rw [this,List.take_append_of_le_length (by simp [evC]),List.take_of_length_le (by simp [evC]),List.getD_eq_getElem?_getD,List.getElem?_eq_getElem h]
 rfl
def bls (l : List Bool) : List AV := l.map AV.bool
theorem xAf (l : List Bool) : (bls l).length = l.length := by simp [bls]
theorem xYk (a b : List Bool) : bls a ++ bls b = bls (a ++ b) := by simp [bls]
theorem xOa {l : List Bool} {k : Nat} (h : k < l.length) : List.take 1 (List.drop k (bls l)) = [AV.bool (l.getD k false)] := by
 rw [List.drop_eq_getElem_cons (by simpa [bls] using h),List.take_succ_cons,List.take_zero]
 simp [bls,List.getD_eq_getElem?_getD,List.getElem?_eq_getElem h]
theorem xTA (d : Nat) (H : Heap) : ∀ l : List Bool,(bls l).mapM (frz d H) = some (bls l)
 | [] => rfl
 | b :: l => by
  have := xTA d H l
  show List.mapM _ (AV.bool b :: bls l) = _
  rw [List.mapM_cons,xFh,this]; rfl
theorem xPK (l : List Bool) : List.take l.length (bls l) = bls l := List.take_of_length_le (by rw [xAf]; omega)
def xOb (fs : List Nd) (e : Ev) (ws : List (List Nat)) : Bool := ((xCG e fs [] ws).1.getD (fs.length - 1) fQ) 0
def vL (fs : List Nd) : List Ev → List (List Nat) → List Bool
 | [],_ => []
 | e :: es,ws => xOb fs e ws :: vL fs es (xCG e fs [] ws).2
theorem xTB (fs : List Nd) : ∀ (es : List Ev) (ws : List (List Nat)),(vL fs es ws).length = es.length
 | [],_ => rfl
 | e :: es,ws => by simp [vL,xTB fs es]
def Gr (G : Heap) (v : AV) (l : List Bool) (B m sb : Nat) : Prop := (l = [] ∧ v = .sl true 0 []) ∨ ∃ o,v = .own false o 0 l.length 1 ∧ G[o]? = some (.cells false false (bls l)) ∧ l ≠ [] ∧ B ≤ o ∧ o ≠ m ∧ o ≠ sb
section
variable {fs : List Nd} {l : List Ev} {m sb B : Nat} {z : Bool}
abbrev F35 (m : Nat) (z : Bool) (l : List Ev) (r : Int) (v : AV) (i : Nat) : List AV := xMK (.sl true 0 []) (.int .i64 r) (.ptr m 0) v (.sl z l.length (evs l)) (.int .i64 (l.length : Nat)) (.int .i64 (i : Nat))
theorem D5 {p : Prop} (h : p := by first | assumption | omega | (simp only [WL,AV.isCell,xAc,xAd,xAa,xAg,xAf] <;> omega) | rfl | decide) : p := h
theorem yAc (h0 : 0 < fs.length) (hlen : fs.length ≤ 64) (hV : ∀ j,j < fs.length → Vn j (fs.getD j nd0)) (hl : l.length ≤ 64) : ∀ k i,i + k = l.length → ∀ (G : Heap) (ws : List (List Nat)) (h : Nat) (v : AV) (out : List Bool),out.length = i → Mo false fs m sb G ws h → B ≤ m → B ≤ sb → Gr G v out B m sb → ∃ (G' : Heap) (i' : Nat) (v' : AV),
  L.loop xHO xQz ⟨F35 m z l 0 v i,G⟩ = some (if (l.drop i).all xNi = true then (.exit 1,⟨F35 m z l 0 v' l.length,G'⟩) else (.ret,⟨F35 m z l 1 v' i',G'⟩)) ∧
   ((l.drop i).all xNi = true → Gr G' v' (out ++ vL fs (l.drop i) ws) B m sb) ∧ Kp B G G' := by
 intro k
 induction k with
 | zero =>
  intro i hi G ws h v out ho hm b1 b2 hg
  obtain rfl : i = l.length := by omega
  refine ⟨G,l.length,v,?_,fun _ => ?_,.refl _ _⟩
  ·rw [if_pos (by rw [List.drop_length]; rfl),xPx]
   simp (maxSteps := 30000000) (disch := first|exact D5|fail) only [xJE,WB,↓reduceIte,xHP]
  ·rw [List.drop_length]
   simpa [vL] using hg
 | succ k ih =>
  intro i hi G ws h v out ho hm b1 b2 hg
  have hlt : i < l.length := by omega
  have hltI : ((i : Nat) : Int) < (l.length : Nat) := by omega
  have em : (l.drop i).all xNi = (xNi (l.getD i ev0) && (l.drop (i + 1)).all xNi) := by
   rw [List.drop_eq_getElem_cons hlt,List.getD_eq_getElem?_getD,List.getElem?_eq_getElem hlt]
   rfl
  have ev : vL fs (l.drop i) ws = xOb fs (l.getD i ev0) ws :: vL fs (l.drop (i + 1)) (xCG (l.getD i ev0) fs [] ws).2 := by
   rw [List.drop_eq_getElem_cons hlt,List.getD_eq_getElem?_getD,List.getElem?_eq_getElem hlt]
   rfl
  rw [em,ev]
  have lm := xAp hm.gm
  have lb := xAp hm.gb
  generalize hn : l.getD i ev0 = e at *
  have hnv : xBW e.z e.args = .sl e.z e.args.length (xAG e.args) := rfl
  have hm1 : Mo false fs m sb (G ++ [.cells false false (evC e)]) ws h := ⟨by rw [xA1 lm]; exact hm.gm,by rw [xA1 lb]; exact hm.gb,hm.ne,hm.rw,hm.h0⟩
  cases hk : xNi e with
  | false =>
   obtain ⟨G1,e1,k1⟩ := xJZ hm1 h0 hk
   simp only [Bool.false_and,Bool.false_eq_true,if_false]
   refine ⟨G1,i,v,?_,fun h => (by cases h),(Kp.appB _ _ (by omega)).trans (k1.low (by simp; omega))⟩
   unfold evA at e1
   unfold evC at e1
   rw [hnv] at e1
   rw [xPx]
   simp (maxSteps := 30000000) (disch := first|exact D5|fail) only [xJE,WB,hltI,↓reduceIte,xTz,evC,hn,hnv,AV.cells,AV.isCell,Nat.reduceAdd,xBT,xES,e1,Int.reduceEq,xHP]
  | true =>
   obtain ⟨G1,e1,m1,k1⟩ := xM4 hm1 h0 (by omega) hV hk
   simp only [Bool.true_and]
   change L.icall (.func 22 []) [.ptr m 0,evA e] _ = some (.tup [.bool (xOb fs e ws),.int .i64 0],G1) at e1
   unfold evA at e1
   unfold evC at e1
   rw [hnv] at e1
   have l1 := k1.1
   simp only [List.length_append,List.length_cons,List.length_nil] at l1
   have kG : Kp B G G1 := (Kp.appB _ _ (by omega)).trans ((k1.low (by simp; omega)).kp b2)
   have lm1 := xAp m1.gm
   have lb1 := xAp m1.gb
   generalize (xCG e fs [] ws).2 = ws2 at *
   generalize xOb fs e ws = b at *
   rcases hg with ⟨rfl,rfl⟩ | ⟨o,rfl,go,hne,bo,om,os⟩
   ·have m2 : Mo false fs m sb (G1 ++ [.cells false false (bls [b])]) ws2 1 := ⟨by rw [xA1 lm1]; exact m1.gm,by rw [xA1 lb1]; exact m1.gb,m1.ne,m1.rw,m1.h0⟩
    obtain ⟨G',i',v',e2,g2,k2⟩ := ih (i + 1) (by omega) (G1 ++ [.cells false false (bls [b])]) ws2 1 (.own false G1.length 0 1 1) [b] (by simp at ho ⊢; omega) m2 b1 b2
     (.inr ⟨G1.length,rfl,by rw [List.getElem?_append_right (Nat.le_refl _),Nat.sub_self]; rfl,by simp,by omega,by omega,by omega⟩)
    refine ⟨G',i',v',?_,fun h => ?_,kG.trans ((Kp.appB _ _ (by omega)).trans k2)⟩
    ·have e2' : L.loop xHO xQz ⟨F35 m z l 0 (.own false G1.length 0 1 1) (i + 1),G1 ++ [.cells false false [.bool b]]⟩ = _ := e2
     rw [xPx]
     simp (maxSteps := 30000000) (disch := first|exact D5|fail) only [xJE,WB,hltI,↓reduceIte,xTz,evC,hn,hnv,AV.cells,AV.isCell,Nat.reduceAdd,xBT,xES,e1,Nat.reduceBEq,xHP,e2']
    ·have := g2 h
     simpa using this
   ·have lo := xAp go
    have go1 : G1[o]? = some (.cells false false (bls out)) := by rw [k1.2 o (by simp; omega) os,xA1 lo]; exact go
    have lo1 := xAp go1
    have m2 : Mo false fs m sb (G1.set o .dead ++ [.cells false false (bls (out ++ [b]))]) ws2 1 := ⟨by rw [xA1 (by simpa using lm1),xBB (by omega)]; exact m1.gm,by rw [xA1 (by simpa using lb1),xBB (by omega)]; exact m1.gb,m1.ne,m1.rw,m1.h0⟩
    obtain ⟨G',i',v',e2,g2,k2⟩ := ih (i + 1) (by omega) (G1.set o .dead ++ [.cells false false (bls (out ++ [b]))]) ws2 1 (.own false G1.length 0 (out.length + 1) 1) (out ++ [b]) (by simp; omega) m2 b1 b2
     (.inr ⟨G1.length,by simp,by rw [List.getElem?_append_right (by simp),List.length_set,Nat.sub_self]; rfl,by simp,by omega,by omega,by omega⟩)
    refine ⟨G',i',v',?_,fun h => ?_,kG.trans (((Kp.set bo).trans (Kp.appB _ _ (by simp; omega))).trans k2)⟩
    ·have hba : bls out ++ [.bool b] = bls (out ++ [b]) := xYk out [b]
     have hbt := xPK out
     have hbl := xAf out
     generalize bls (out ++ [b]) = L2 at *
     generalize bls out = L1 at *
     rw [xPx]
     simp (maxSteps := 30000000) (disch := first|exact D5|fail) only [xJE,WB,hltI,↓reduceIte,xTz,evC,hn,hnv,AV.cells,AV.isCell,Nat.reduceAdd,xBT,xES,e1,go1,Nat.reduceBEq,hbt,hba,xHP,e2]
    ·have := g2 h
     simpa using this
theorem yAd (hc : chk fs = 0) (hw : ∀ j,j < fs.length → WN (fs.getD j nd0)) (z : Bool) (l : List Ev) (hl : l.length ≤ 64) : L.pcall 35 [.sl false fs.length (nds fs),.sl z l.length (evs l)] =
  some (if l.all xNi = true then .tup [.sl l.isEmpty l.length (bls (vL fs l (zr (nT fs)))),.int .i64 0] else .tup [.sl true 0 [],.int .i64 1]) := by
 obtain ⟨h0,hlen,hV⟩ := xYb hc
 obtain ⟨G1,m,sb,h19,hm,-,-,-⟩ := xYj hc hw []
 have hl' : ¬ (64 : Int) < (l.length : Nat) := by omega
 obtain ⟨G',i',v',e1,g1,-⟩ := yAc (B := 0) (z := z) (l := l) h0 hlen hV hl l.length 0 (by omega) G1 _ 0 (.sl true 0 []) [] rfl hm (by omega) (by omega) (.inl ⟨rfl,rfl⟩)
 rw [List.drop_zero] at e1 g1
 have e1' : L.loop xHO xQz ⟨xMK (.sl true 0 []) (.int .i64 0) (.ptr m 0) (.sl true 0 []) (.sl z l.length (evs l)) (.int .i64 (l.length : Nat)) (.int .i64 0),G1⟩ = _ := e1
 cases ha : l.all xNi with
 | false =>
  rw [ha] at e1'
  simp only [Bool.false_eq_true,if_false] at e1' ⊢
  rw [yB8,a35,xAe]
  simp (disch := omega) only [WB,Nat.reduceAdd,Nat.reduceSub,h19,↓reduceIte,hl',xHP,e1']
 | true =>
  have g2 := g1 ha
  rw [ha] at e1'
  simp only [if_true,List.nil_append] at e1' g2 ⊢
  have hvl := xTB fs l (zr (nT fs))
  generalize vL fs l (zr (nT fs)) = V at *
  rcases g2 with ⟨rfl,rfl⟩ | ⟨o,rfl,go,hne,-,-,-⟩
  ·have hl0 : l = [] := List.eq_nil_of_length_eq_zero (by simpa using hvl.symm)
   have hr : AV.sl l.isEmpty l.length (bls []) = .sl true 0 [] := by subst hl0; rfl
   rw [hr]
   clear hvl
   rw [yB8,a35,xAe]
   simp (disch := omega) only [WB,Nat.reduceAdd,Nat.reduceSub,h19,↓reduceIte,hl',xHP,e1']
  ·have hbl := xAf V
   have hbt := xPK V
   have hfr := fun d H => xTA d H V
   rw [hvl] at hbt hbl e1'
   have hem : l.isEmpty = false := by
    cases l with
    | nil => simp at hvl; exact absurd hvl hne
    | cons _ _ => rfl
   rw [hem]
   generalize bls V = L1 at *
   rw [yB8,a35,xAe]
   simp (disch := omega) only [WB,Nat.reduceAdd,Nat.reduceSub,h19,↓reduceIte,hl',xHP,e1',xCi,go,hbt,hfr]
end
def Gn (G : Heap) (v : AV) (l : List Nd) : Prop := (l = [] ∧ v = .sl true 0 []) ∨ ∃ o,v = .own false o 0 l.length 6 ∧ G[o]? = some (.cells false false (nds l)) ∧ l ≠ []
theorem xYl (a b : List Nd) : nds a ++ nds b = nds (a ++ b) := by simp [rows]
section
variable {fs : List Nd} {z : Bool}
end
def yAe (n : Nat) (l : List Ev) : List Ev := (l.filter xNi).take n
section
variable {l : List Ev} {z : Bool} {f : AV} {n : Nat}
theorem xOB (n : Nat) (l : List Ev) : (yAe n l).length ≤ n := by simp [yAe]; omega
end
end Go.Abs.Events
