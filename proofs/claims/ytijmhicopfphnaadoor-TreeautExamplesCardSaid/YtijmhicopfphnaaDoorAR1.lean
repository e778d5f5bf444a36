/- The reference's Check. -/
import Derived.Test.YtijmhicopfphnaaDoorAbsBun
import Derived.Test.YtijmhicopfphnaaDoorAMM
namespace Go.Abs.Tree
open Go Go.Abs
set_option linter.unusedSimpArgs false
set_option linter.unusedVariables false
theorem xMT {s : Int} {z : Bool} {l : List Int} {s4 : AV} (hl : l.length < 1099511627776) : ∀ d i last,i + d = l.length → (i = 0 ∧ last = -1 ∨ 0 < i ∧ last = l.getD (i - 1) 0 ∧ 0 ≤ last) →
  ∃ i' : Nat,L.loop xRw xZ9 ⟨xO9 (iw z l) (.int .i64 s) s4 (.int .i64 (i : Nat)),[]⟩ =
   some (if xOo s last (l.drop i) = true then (.exit 0,⟨xO9 (iw z l) (.int .i64 s) s4 (.int .i64 (l.length : Nat)),[]⟩)
    else (.ret,⟨xO9 (iw z l) (.int .i64 s) (.int .i64 8) (.int .i64 (i' : Nat)),[]⟩))
 | 0,i,last,h,hla => by
  obtain rfl : i = l.length := by omega
  refine ⟨0,?_⟩
  rw [if_pos (by rw [List.drop_length]; rfl),xPa]
  simp (maxSteps := 30000000) (disch := first | assumption | omega | (simp only [WL,AV.isCell,xAa] <;> omega) | rfl | decide) only [xLH,WB,↓reduceIte,xLI]
 | d + 1,i,last,h,hla => by
  have hlt : (i : Int) < (l.length : Nat) := by omega
  rw [xHA (by omega : i < l.length)]
  have bad : (l.getD i 0 ≤ last ∨ s ≤ l.getD i 0) → xOo s last (l.getD i 0 :: l.drop (i + 1)) = false := fun h => if_pos h
  by_cases c1 : l.getD i 0 < 0
  ·refine ⟨i,?_⟩
   rw [bad (by omega),if_neg (by simp),xPa]
   simp (maxSteps := 30000000) (disch := first | assumption | omega | (simp only [WL,AV.isCell,xAa] <;> omega) | rfl | decide) only [xLH,WB,hlt,↓reduceIte,W2,c1,xAm,xLI]
  ·by_cases c2 : s ≤ l.getD i 0
   ·refine ⟨i,?_⟩
    rw [bad (by omega),if_neg (by simp),xPa]
    simp (maxSteps := 30000000) (disch := first | assumption | omega | (simp only [WL,AV.isCell,xAa] <;> omega) | rfl | decide) only [xLH,WB,hlt,↓reduceIte,W2,c1,c2,xAm,xLI]
   ·by_cases c3 : i = 0
    ·have hla' : last = -1 := by omega
     obtain ⟨i',ih⟩ := xMT (s := s) (z := z) (s4 := s4) hl d (i + 1) (l.getD i 0) (by omega) (.inr ⟨by omega,by rw [Nat.add_sub_cancel],by omega⟩)
     refine ⟨i',?_⟩
     have ea : xOo s last (l.getD i 0 :: l.drop (i + 1)) = xOo s (l.getD i 0) (l.drop (i + 1)) := if_neg (by omega)
     have e3 : ((0 : Int) < (i : Nat)) = False := eq_false (by omega)
     rw [ea,xPa]
     by_cases e : xOo s (l.getD i 0) (l.drop (i + 1)) = true
     ·rw [if_pos e] at ih ⊢
      simp (maxSteps := 30000000) (disch := first | assumption | omega | (simp only [WL,AV.isCell,xAa] <;> omega) | rfl | decide) only [xLH,WB,hlt,↓reduceIte,W2,c1,c2,e3,xAm,xLI,ih]
     ·rw [if_neg e] at ih ⊢
      simp (maxSteps := 30000000) (disch := first | assumption | omega | (simp only [WL,AV.isCell,xAa] <;> omega) | rfl | decide) only [xLH,WB,hlt,↓reduceIte,W2,c1,c2,e3,xAm,xLI,ih]
    ·have e3 : ((0 : Int) < (i : Nat)) = True := eq_true (by omega)
     have hla' : last = l.getD (i - 1) 0 ∧ 0 ≤ last := by omega
     by_cases c4 : l.getD i 0 ≤ l.getD (i - 1) 0
     ·refine ⟨i,?_⟩
      rw [bad (by omega),if_neg (by simp),xPa]
      simp (maxSteps := 30000000) (disch := first | assumption | omega | (simp only [WL,AV.isCell,xAa] <;> omega) | rfl | decide) only [xLH,WB,hlt,↓reduceIte,W2,c1,c2,e3,xAm,c4,xLI]
     ·obtain ⟨i',ih⟩ := xMT (s := s) (z := z) (s4 := s4) hl d (i + 1) (l.getD i 0) (by omega) (.inr ⟨by omega,by rw [Nat.add_sub_cancel],by omega⟩)
      refine ⟨i',?_⟩
      have ea : xOo s last (l.getD i 0 :: l.drop (i + 1)) = xOo s (l.getD i 0) (l.drop (i + 1)) := if_neg (by omega)
      rw [ea,xPa]
      by_cases e : xOo s (l.getD i 0) (l.drop (i + 1)) = true
      ·rw [if_pos e] at ih ⊢
       simp (maxSteps := 30000000) (disch := first | assumption | omega | (simp only [WL,AV.isCell,xAa] <;> omega) | rfl | decide) only [xLH,WB,hlt,↓reduceIte,W2,c1,c2,e3,xAm,c4,xLI,ih]
      ·rw [if_neg e] at ih ⊢
       simp (maxSteps := 30000000) (disch := first | assumption | omega | (simp only [WL,AV.isCell,xAa] <;> omega) | rfl | decide) only [xLH,WB,hlt,↓reduceIte,W2,c1,c2,e3,xAm,c4,xLI,ih]
theorem xUM (s : Int) (z : Bool) (l : List Int) (hl : l.length < 1099511627776) : L.pcall 46 [iw z l,.int .i64 s] = some (.int .i64 (xIP s l)) := by
 obtain ⟨i',h⟩ := xMT (s := s) (z := z) (s4 := .int .i64 0) hl l.length 0 (-1) (by omega) (.inl ⟨rfl,rfl⟩)
 simp only [Int.natCast_zero,List.drop_zero] at h
 unfold xIP
 rw [yH2,a46,xAd]
 by_cases e : xOo s (-1) l = true
 ·rw [if_pos e] at h ⊢
  simp (disch := omega) only [WB,Nat.reduceAdd,Nat.reduceSub,xLI,h,↓reduceIte]
 ·rw [if_neg e] at h ⊢
  simp (disch := omega) only [WB,Nat.reduceAdd,Nat.reduceSub,xLI,h]
theorem xTA {v p n : Nat} : xLh v p n = if 2 ^ v ≤ p then 7 else if 2 ^ v ≤ n then 7 else if p &&& n = 0 then 0 else 2 := by
 unfold xLh
 by_cases c1 : 2 ^ v ≤ p
 ·rw [if_pos c1,if_pos (Nat.le_trans c1 Nat.left_le_or)]
 ·rw [if_neg c1]
  by_cases c2 : 2 ^ v ≤ n
  ·rw [if_pos c2,if_pos (Nat.le_trans c2 Nat.right_le_or)]
  ·rw [if_neg c2,if_neg]
   have := Nat.or_lt_two_pow (x := p) (y := n) (n := v) (by omega) (by omega)
   omega
theorem xTB (a b : Nat) : (((a : Nat) : Int) ≤ ((b : Nat) : Int)) = (a ≤ b) := propext ⟨fun h => by omega,fun h => by omega⟩
theorem sh3 {v : Nat} (hv : v ≤ 3) : IntKind.i64.wrap (1 * 2 ^ min v IntKind.i64.bits) = ((2 ^ v : Nat) : Int) := yHf (by omega)
set_option maxRecDepth 20000 in
set_option maxHeartbeats 4000000 in
theorem xTC {n : Aut} {v : Nat} {s2 : AV} (hv : v ≤ 3) (hnv : n.vars = (v : Nat)) (hl : n.rl.length < 1099511627776) (hb : ∀ e ∈ n.rl,e.p < 256 ∧ e.n < 256) : ∀ d i T,i + d = n.rl.length →
  ∃ (T' : Heap) (i' : Nat),L.loop xQ2 xZV ⟨xOZ (.ptr 0 0) s2 (.int .i64 (i : Nat)),.cells false false n.cells :: T⟩ =
   some (if xJj n.states v (n.rl.drop i) = 0 then (.exit 0,⟨xOZ (.ptr 0 0) s2 (.int .i64 (n.rl.length : Nat)),.cells false false n.cells :: T'⟩)
    else (.ret,⟨xOZ (.ptr 0 0) (.int .i64 (xJj n.states v (n.rl.drop i))) (.int .i64 (i' : Nat)),.cells false false n.cells :: T'⟩)) := by
 intro d
 induction d with
 | zero =>
  intro i T h
  obtain rfl : i = n.rl.length := by omega
  refine ⟨T,0,?_⟩
  rw [if_pos (by rw [List.drop_length]; rfl),xLc]
  simp (maxSteps := 30000000) (disch := first | assumption | omega | (simp only [WL,AV.isCell,xAa] <;> omega) | rfl | decide) only [xJQ,WB,↓reduceIte,xJR]
 | succ d IH =>
  intro i T h
  have hlt : (i : Int) < (n.rl.length : Nat) := by omega
  have hm := hb _ (xIN (by omega : i < n.rl.length))
  have hand := yEl hm.1 hm.2
  rw [xHR (by omega : i < n.rl.length)]
  have hbad : ((n.rl.getD i r0).l < 0 ∨ n.states ≤ (n.rl.getD i r0).l ∨ (n.rl.getD i r0).r < 0 ∨ n.states ≤ (n.rl.getD i r0).r ∨ (n.rl.getD i r0).t < 0 ∨ n.states ≤ (n.rl.getD i r0).t) → xNf n.states v (n.rl.getD i r0) = 8 := fun h => if_pos (by omega)
  by_cases c1 : (n.rl.getD i r0).l < 0
  ·refine ⟨T ++ [.cells false false (xGI (n.rl.getD i r0))],i,?_⟩
   rw [xHz (by rw [hbad (by omega)]; omega),hbad (by omega),if_neg (by omega),xLc]
   clear hbad
   simp (maxSteps := 30000000) (disch := first | assumption | omega | (simp only [WL,AV.isCell,xAa] <;> omega) | rfl | decide) only [xJQ,WB,hlt,↓reduceIte,xCF,AV.cells,AV.isCell,Nat.reduceAdd,c1,xJR,xGI]
  by_cases c2 : n.states ≤ (n.rl.getD i r0).l
  ·refine ⟨T ++ [.cells false false (xGI (n.rl.getD i r0))],i,?_⟩
   rw [xHz (by rw [hbad (by omega)]; omega),hbad (by omega),if_neg (by omega),xLc]
   clear hbad
   simp (maxSteps := 30000000) (disch := first | assumption | omega | (simp only [WL,AV.isCell,xAa] <;> omega) | rfl | decide) only [xJQ,WB,hlt,↓reduceIte,xCF,AV.cells,AV.isCell,Nat.reduceAdd,c1,c2,xJR,xGI]
  by_cases c3 : (n.rl.getD i r0).r < 0
  ·refine ⟨T ++ [.cells false false (xGI (n.rl.getD i r0))],i,?_⟩
   rw [xHz (by rw [hbad (by omega)]; omega),hbad (by omega),if_neg (by omega),xLc]
   clear hbad
   simp (maxSteps := 30000000) (disch := first | assumption | omega | (simp only [WL,AV.isCell,xAa] <;> omega) | rfl | decide) only [xJQ,WB,hlt,↓reduceIte,xCF,AV.cells,AV.isCell,Nat.reduceAdd,c1,c2,c3,xJR,xGI]
  by_cases c4 : n.states ≤ (n.rl.getD i r0).r
  ·refine ⟨T ++ [.cells false false (xGI (n.rl.getD i r0))],i,?_⟩
   rw [xHz (by rw [hbad (by omega)]; omega),hbad (by omega),if_neg (by omega),xLc]
   clear hbad
   simp (maxSteps := 30000000) (disch := first | assumption | omega | (simp only [WL,AV.isCell,xAa] <;> omega) | rfl | decide) only [xJQ,WB,hlt,↓reduceIte,xCF,AV.cells,AV.isCell,Nat.reduceAdd,c1,c2,c3,c4,xJR,xGI]
  by_cases c5 : (n.rl.getD i r0).t < 0
  ·refine ⟨T ++ [.cells false false (xGI (n.rl.getD i r0))],i,?_⟩
   rw [xHz (by rw [hbad (by omega)]; omega),hbad (by omega),if_neg (by omega),xLc]
   clear hbad
   simp (maxSteps := 30000000) (disch := first | assumption | omega | (simp only [WL,AV.isCell,xAa] <;> omega) | rfl | decide) only [xJQ,WB,hlt,↓reduceIte,xCF,AV.cells,AV.isCell,Nat.reduceAdd,c1,c2,c3,c4,c5,xJR,xGI]
  by_cases c6 : n.states ≤ (n.rl.getD i r0).t
  ·refine ⟨T ++ [.cells false false (xGI (n.rl.getD i r0))],i,?_⟩
   rw [xHz (by rw [hbad (by omega)]; omega),hbad (by omega),if_neg (by omega),xLc]
   clear hbad
   simp (maxSteps := 30000000) (disch := first | assumption | omega | (simp only [WL,AV.isCell,xAa] <;> omega) | rfl | decide) only [xJQ,WB,hlt,↓reduceIte,xCF,AV.cells,AV.isCell,Nat.reduceAdd,c1,c2,c3,c4,c5,c6,xJR,xGI]
  have hi1 : i + 1 + d = n.rl.length := by omega
  have ee : xNf n.states v (n.rl.getD i r0) = xLh v (n.rl.getD i r0).p (n.rl.getD i r0).n := by
   clear hbad
   exact if_neg (by omega)
  clear hbad
  rw [xTA] at ee
  by_cases d1 : 2 ^ v ≤ (n.rl.getD i r0).p
  ·rw [if_pos d1] at ee
   refine ⟨T ++ [.cells false false (xGI (n.rl.getD i r0))],i,?_⟩
   rw [xHz (by rw [ee]; omega),ee,if_neg (by omega),xLc]
   simp (maxSteps := 30000000) (disch := first | assumption | omega | (simp only [WL,AV.isCell,xAa] <;> omega) | rfl | decide) only [xJQ,WB,hlt,↓reduceIte,xCF,AV.cells,AV.isCell,Nat.reduceAdd,c1,c2,c3,c4,c5,c6,hnv,sh3 hv,xTB (2 ^ v) (n.rl.getD i r0).p,d1,xAm,xJR,xGI]
  rw [if_neg d1] at ee
  by_cases d2 : 2 ^ v ≤ (n.rl.getD i r0).n
  ·rw [if_pos d2] at ee
   refine ⟨T ++ [.cells false false (xGI (n.rl.getD i r0))],i,?_⟩
   rw [xHz (by rw [ee]; omega),ee,if_neg (by omega),xLc]
   simp (maxSteps := 30000000) (disch := first | assumption | omega | (simp only [WL,AV.isCell,xAa] <;> omega) | rfl | decide) only [xJQ,WB,hlt,↓reduceIte,xCF,AV.cells,AV.isCell,Nat.reduceAdd,c1,c2,c3,c4,c5,c6,hnv,sh3 hv,xTB (2 ^ v) (n.rl.getD i r0).p,d1,xAm,xTB (2 ^ v) (n.rl.getD i r0).n,d2,xJR,xGI]
  rw [if_neg d2] at ee
  by_cases d3 : (n.rl.getD i r0).p &&& (n.rl.getD i r0).n = 0
  ·rw [if_pos d3] at ee
   obtain ⟨T',i',ih⟩ := IH (i + 1) (T ++ [.cells false false (xGI (n.rl.getD i r0))]) hi1
   refine ⟨T',i',?_⟩
   rw [xSB ee,xLc]
   simp only [xGI] at ih
   have hand0 : xK8 .and .u8 ((n.rl.getD i r0).p : Int) ((n.rl.getD i r0).n : Int) = 0 := by rw [hand,d3]; rfl
   clear hand d3 ee hb
   obtain ⟨hm1,hm2⟩ := hm
   have sw : IntKind.i64.wrap (1 * 2 ^ min v IntKind.i64.bits) = ((2 ^ v : Nat) : Int) := sh3 hv
   have D1 : (((2 ^ v : Nat) : Int) ≤ ((n.rl.getD i r0).p : Nat)) = False := eq_false (by omega)
   have D2 : (((2 ^ v : Nat) : Int) ≤ ((n.rl.getD i r0).n : Nat)) = False := eq_false (by omega)
   clear d1 d2
   generalize (2 : Nat) ^ v = w at *
   have F1 := fun (_ : Unit) => sw
   have F2 := fun (_ : Unit) => D1
   have F3 := fun (_ : Unit) => D2
   have F4 := fun (_ : Unit) => hand0
   clear sw D1 D2 hand0
   by_cases e : xJj n.states v (n.rl.drop (i + 1)) = 0
   ·rw [if_pos e] at ih ⊢
    simp (maxSteps := 30000000) (disch := first | assumption | omega | (simp only [WL,AV.isCell,xAa] <;> omega) | rfl | decide) only [xJQ,WB,hlt,↓reduceIte,xCF,AV.cells,AV.isCell,Nat.reduceAdd,c1,c2,c3,c4,c5,c6,hnv,F1 (),F2 (),xAm,F3 (),F4 (),xJR,ih]
   ·rw [if_neg e] at ih ⊢
    simp (maxSteps := 30000000) (disch := first | assumption | omega | (simp only [WL,AV.isCell,xAa] <;> omega) | rfl | decide) only [xJQ,WB,hlt,↓reduceIte,xCF,AV.cells,AV.isCell,Nat.reduceAdd,c1,c2,c3,c4,c5,c6,hnv,F1 (),F2 (),xAm,F3 (),F4 (),xJR,ih]
  ·rw [if_neg d3] at ee
   refine ⟨T ++ [.cells false false (xGI (n.rl.getD i r0))],i,?_⟩
   rw [xHz (by rw [ee]; omega),ee,if_neg (by omega),xLc]
   generalize (n.rl.getD i r0).p &&& (n.rl.getD i r0).n = k at *
   have k0 : (((k : Nat) : Int) = 0) = False := eq_false (by omega)
   clear ee hb
   obtain ⟨hm1,hm2⟩ := hm
   have sw : IntKind.i64.wrap (1 * 2 ^ min v IntKind.i64.bits) = ((2 ^ v : Nat) : Int) := sh3 hv
   have D1 : (((2 ^ v : Nat) : Int) ≤ ((n.rl.getD i r0).p : Nat)) = False := eq_false (by omega)
   have D2 : (((2 ^ v : Nat) : Int) ≤ ((n.rl.getD i r0).n : Nat)) = False := eq_false (by omega)
   clear d1 d2
   generalize (2 : Nat) ^ v = w at *
   have F1 := fun (_ : Unit) => sw
   have F2 := fun (_ : Unit) => D1
   have F3 := fun (_ : Unit) => D2
   have F4 := fun (_ : Unit) => hand
   clear sw D1 D2 hand
   have F5 := fun (_ : Unit) => k0
   clear k0 d3
   simp (maxSteps := 30000000) (disch := first | assumption | omega | (simp only [WL,AV.isCell,xAa] <;> omega) | rfl | decide) only [xJQ,WB,hlt,↓reduceIte,xCF,AV.cells,AV.isCell,Nat.reduceAdd,c1,c2,c3,c4,c5,c6,hnv,F1 (),F2 (),xAm,F3 (),F4 (),F5 (),xJR,xGI]
set_option maxHeartbeats 4000000 in
theorem xJd (n : Aut) (h1 : n.st.length < 1099511627776) (h2 : n.fi.length < 1099511627776) (h3 : n.rl.length < 1099511627776) (hb : ∀ e ∈ n.rl,e.p < 256 ∧ e.n < 256) : L.pcall 15 [n.av] = some (.int .i64 (xKJ n)) := by
 have e5 : ((512 : Int) < (n.rl.length : Nat)) = (512 < n.rl.length) := propext ⟨fun h => by omega,fun h => by omega⟩
 have l1 := xUM n.states n.z1 n.st h1
 have l2 := xUM n.states n.z2 n.fi h2
 have g : ∀ l,xIP n.states l = 0 ∨ xIP n.states l = 8 := fun l => by unfold xIP; split <;> simp
 unfold xKJ
 rw [yHS,a15,xAd]
 by_cases c1 : n.vars < 0
 ·rw [if_pos (.inl c1)]
  simp (maxSteps := 30000000) (disch := first | assumption | omega | (simp only [WL,AV.isCell,xAa] <;> omega) | rfl | decide) only [WB,Nat.reduceSub,AV.cells,AV.isCell,↓reduceIte,c1]
 by_cases c2 : 3 < n.vars
 ·rw [if_pos (.inr c2)]
  simp (maxSteps := 30000000) (disch := first | assumption | omega | (simp only [WL,AV.isCell,xAa] <;> omega) | rfl | decide) only [WB,Nat.reduceSub,AV.cells,AV.isCell,↓reduceIte,c1,c2]
 rw [if_neg (by omega)]
 by_cases c3 : n.states < 0
 ·rw [if_pos c3]
  simp (maxSteps := 30000000) (disch := first | assumption | omega | (simp only [WL,AV.isCell,xAa] <;> omega) | rfl | decide) only [WB,Nat.reduceSub,AV.cells,AV.isCell,↓reduceIte,c1,c2,c3]
 rw [if_neg c3]
 by_cases c4 : 64 < n.states
 ·rw [if_pos (.inl c4)]
  simp (maxSteps := 30000000) (disch := first | assumption | omega | (simp only [WL,AV.isCell,xAa] <;> omega) | rfl | decide) only [WB,Nat.reduceSub,AV.cells,AV.isCell,↓reduceIte,c1,c2,c3,c4]
 by_cases c5 : 512 < n.rl.length
 ·rw [if_pos (.inr c5)]
  simp (maxSteps := 30000000) (disch := first | assumption | omega | (simp only [WL,AV.isCell,xAa] <;> omega) | rfl | decide) only [WB,Nat.reduceSub,AV.cells,AV.isCell,↓reduceIte,c1,c2,c3,c4,e5,c5]
 rw [if_neg (by omega)]
 rcases g n.st with k1 | k1
 ·rcases g n.fi with k2 | k2
  ·rw [if_pos ⟨k1,k2⟩]
   rw [k1] at l1
   rw [k2] at l2
   obtain ⟨v,hv⟩ : ∃ v : Nat,n.vars = (v : Nat) := ⟨n.vars.toNat,by omega⟩
   have htv : n.vars.toNat = v := by omega
   obtain ⟨T',i2,g2⟩ := xTC (n := n) (v := v) (s2 := .int .i64 0) (by omega) hv h3 hb n.rl.length 0 [] (by omega)
   simp only [Int.natCast_zero,List.drop_zero] at g2
   rw [htv]
   by_cases c7 : xJj n.states v n.rl = 0
   ·rw [if_pos c7] at g2
    rw [c7]
    simp (maxSteps := 30000000) (disch := first | assumption | omega | (simp only [WL,AV.isCell,xAa] <;> omega) | rfl | decide) only [WB,Nat.reduceSub,AV.cells,AV.isCell,↓reduceIte,c1,c2,c3,c4,e5,c5,l1,xE0,xAJ,l2,xJR,g2]
   ·rw [if_neg c7] at g2
    simp (maxSteps := 30000000) (disch := first | assumption | omega | (simp only [WL,AV.isCell,xAa] <;> omega) | rfl | decide) only [WB,Nat.reduceSub,AV.cells,AV.isCell,↓reduceIte,c1,c2,c3,c4,e5,c5,l1,xE0,xAJ,l2,xJR,g2]
  ·rw [if_neg (by omega)]
   rw [k1] at l1
   rw [k2] at l2
   simp (maxSteps := 30000000) (disch := first | assumption | omega | (simp only [WL,AV.isCell,xAa] <;> omega) | rfl | decide) only [WB,Nat.reduceSub,AV.cells,AV.isCell,↓reduceIte,c1,c2,c3,c4,e5,c5,l1,xE0,xAJ,l2,Int.reduceEq]
 ·rw [if_neg (by omega)]
  rw [k1] at l1
  simp (maxSteps := 30000000) (disch := first | assumption | omega | (simp only [WL,AV.isCell,xAa] <;> omega) | rfl | decide) only [WB,Nat.reduceSub,AV.cells,AV.isCell,↓reduceIte,c1,c2,c3,c4,e5,c5,l1,xE0,xAJ,Int.reduceEq]
end Go.Abs.Tree
