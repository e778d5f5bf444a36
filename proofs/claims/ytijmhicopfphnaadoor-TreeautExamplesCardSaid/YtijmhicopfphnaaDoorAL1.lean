/- Automata and trees as values; the lists of states; Check. -/
import Derived.Test.YtijmhicopfphnaaDoorAbsBun
import Derived.Test.YtijmhicopfphnaaDoorAMN
namespace Go.Abs.Tree
open Go Go.Abs
set_option linter.unusedSimpArgs false
set_option linter.unusedVariables false
structure Rl where
 l : Int
 r : Int
 t : Int
 p : Nat
 n : Nat
def r0 : Rl := ⟨0,0,0,0,0⟩
def xGI (e : Rl) : List AV := [.int .i64 e.l,.int .i64 e.r,.int .i64 e.t,.int .u8 (e.p : Nat),.int .u8 (e.n : Nat)]
def rls (l : List Rl) : List AV := rows xGI l
theorem xAa (l : List Rl) : (rls l).length = l.length * 5 := xLW (enc := xGI) (k := 5) (fun _ => rfl) l
theorem xCF {l : List Rl} {i : Nat} (h : i < l.length) : List.take 5 (List.drop (i * 5) (rls l)) = [.int .i64 (l.getD i r0).l,.int .i64 (l.getD i r0).r,.int .i64 (l.getD i r0).t,.int .u8 ((l.getD i r0).p : Nat),.int .u8 ((l.getD i r0).n : Nat)] := by
 unfold rls
 rw [xLi (enc := xGI) (k := 5) (fun _ => rfl),List.drop_eq_getElem_cons h]
 have : l.getD i r0 = l[i] := by simp [List.getD,List.getElem?_eq_getElem h]
 rw [this]
 rfl
theorem xHR {l : List Rl} {i : Nat} (h : i < l.length) : l.drop i = l.getD i r0 :: l.drop (i + 1) := by
 rw [List.drop_eq_getElem_cons h]
 simp [List.getD,List.getElem?_eq_getElem h]
theorem xIN {l : List Rl} {i : Nat} (h : i < l.length) : l.getD i r0 ∈ l := by
 rw [List.getD_eq_getElem?_getD,List.getElem?_eq_getElem h]
 exact List.getElem_mem _
structure Aut where
 vars : Int
 states : Int
 z1 : Bool
 st : List Int
 z2 : Bool
 fi : List Int
 z3 : Bool
 rl : List Rl
abbrev Aut.cells (n : Aut) : List AV := [.int .i64 n.vars,.int .i64 n.states,iw n.z1 n.st,iw n.z2 n.fi,.sl n.z3 n.rl.length (rls n.rl)]
abbrev Aut.av (n : Aut) : AV := .agg n.cells
def xOo (s : Int) : Int → List Int → Bool
 | _,[] => true
 | last,q :: t => if q ≤ last ∨ s ≤ q then false else xOo s q t
theorem xUO {s : Int} {z : Bool} {l : List Int} {s4 : AV} {H : Heap} (hl : l.length < 1099511627776) : ∀ d i last,i + d = l.length →
  ∃ (last' : Int) (i' : Nat),L.loop xRv xZ8 ⟨xO8 (.int .i64 s) s4 (.int .i64 last) (iw z l) (.int .i64 (l.length : Nat)) (.int .i64 (i : Nat)),H⟩ =
   some (if xOo s last (l.drop i) = true then (.exit 0,⟨xO8 (.int .i64 s) s4 (.int .i64 last') (iw z l) (.int .i64 (l.length : Nat)) (.int .i64 (l.length : Nat)),H⟩)
    else (.ret,⟨xO8 (.int .i64 s) (.int .i64 8) (.int .i64 last') (iw z l) (.int .i64 (l.length : Nat)) (.int .i64 (i' : Nat)),H⟩))
 | 0,i,last,h => by
  obtain rfl : i = l.length := by omega
  refine ⟨last,0,?_⟩
  rw [if_pos (by rw [List.drop_length]; rfl),xUf]
  simp (maxSteps := 30000000) (disch := first | assumption | omega | (simp only [WL,AV.isCell,xAa] <;> omega) | rfl | decide) only [xN0,WB,↓reduceIte,xN1]
 | d + 1,i,last,h => by
  have hlt : (i : Int) < (l.length : Nat) := by omega
  rw [xHA (by omega : i < l.length)]
  by_cases c1 : l.getD i 0 ≤ last
  ·refine ⟨last,i,?_⟩
   have ea : xOo s last (l.getD i 0 :: l.drop (i + 1)) = false := if_pos (.inl c1)
   rw [ea,if_neg (by simp),xUf]
   simp (maxSteps := 30000000) (disch := first | assumption | omega | (simp only [WL,AV.isCell,xAa] <;> omega) | rfl | decide) only [xN0,WB,hlt,↓reduceIte,W2,c1,xN1]
  ·by_cases c2 : s ≤ l.getD i 0
   ·refine ⟨last,i,?_⟩
    have ea : xOo s last (l.getD i 0 :: l.drop (i + 1)) = false := if_pos (.inr c2)
    rw [ea,if_neg (by simp),xUf]
    simp (maxSteps := 30000000) (disch := first | assumption | omega | (simp only [WL,AV.isCell,xAa] <;> omega) | rfl | decide) only [xN0,WB,hlt,↓reduceIte,W2,c1,c2,xN1]
   ·obtain ⟨last',i',ih⟩ := xUO (s := s) (z := z) (s4 := s4) (H := H) hl d (i + 1) (l.getD i 0) (by omega)
    refine ⟨last',i',?_⟩
    have ea : xOo s last (l.getD i 0 :: l.drop (i + 1)) = xOo s (l.getD i 0) (l.drop (i + 1)) := if_neg (by omega)
    rw [ea,xUf]
    by_cases e : xOo s (l.getD i 0) (l.drop (i + 1)) = true
    ·rw [if_pos e] at ih ⊢
     simp (maxSteps := 30000000) (disch := first | assumption | omega | (simp only [WL,AV.isCell,xAa] <;> omega) | rfl | decide) only [xN0,WB,hlt,↓reduceIte,W2,c1,c2,xN1,ih]
    ·rw [if_neg e] at ih ⊢
     simp (maxSteps := 30000000) (disch := first | assumption | omega | (simp only [WL,AV.isCell,xAa] <;> omega) | rfl | decide) only [xN0,WB,hlt,↓reduceIte,W2,c1,c2,xN1,ih]
def xIP (s : Int) (l : List Int) : Int := if xOo s (-1) l = true then 0 else 8
theorem yB3 (s : Int) (z : Bool) (l : List Int) (hl : l.length < 1099511627776) : L.pcall 44 [iw z l,.int .i64 s] = some (.int .i64 (xIP s l)) := by
 obtain ⟨last',i',h⟩ := xUO (s := s) (z := z) (s4 := .int .i64 0) (H := []) hl l.length 0 (-1) (by omega)
 simp only [Int.natCast_zero,List.drop_zero] at h
 unfold xIP
 rw [yH0,a44,xAd]
 by_cases e : xOo s (-1) l = true
 ·rw [if_pos e] at h ⊢
  simp (disch := omega) only [Int.reduceNeg,WB,Nat.reduceAdd,Nat.reduceSub,xN1,h,↓reduceIte]
 ·rw [if_neg e] at h ⊢
  simp (disch := omega) only [Int.reduceNeg,WB,Nat.reduceAdd,Nat.reduceSub,xN1,h]
def xNf (s : Int) (v : Nat) (e : Rl) : Int := if min (min e.l e.r) e.t < 0 ∨ s ≤ max (max e.l e.r) e.t then 8 else xLh v e.p e.n
def xJj (s : Int) (v : Nat) : List Rl → Int
 | [] => 0
 | e :: t => if xNf s v e = 0 then xJj s v t else xNf s v e
theorem xHz {s : Int} {v : Nat} {e : Rl} {t : List Rl} (h : xNf s v e ≠ 0) : xJj s v (e :: t) = xNf s v e := if_neg h
theorem xSB {s : Int} {v : Nat} {e : Rl} {t : List Rl} (h : xNf s v e = 0) : xJj s v (e :: t) = xJj s v t := if_pos h
theorem xVT (n : Aut) {s2 : AV} (h1 : n.st.length < 1099511627776) (h2 : n.fi.length < 1099511627776) :
  ∃ i' : AV,L.loop xOW xXa ⟨xM5 (.ptr 0 0) s2 (.agg [iw n.z1 n.st,iw n.z2 n.fi]) (.int .i64 0),[.cells false false n.cells]⟩ =
   some (if xIP n.states n.st = 0 ∧ xIP n.states n.fi = 0 then (.exit 1,⟨xM5 (.ptr 0 0) s2 (.agg [iw n.z1 n.st,iw n.z2 n.fi]) (.int .i64 2),[.cells false false n.cells]⟩)
    else (.ret,⟨xM5 (.ptr 0 0) (.int .i64 8) (.agg [iw n.z1 n.st,iw n.z2 n.fi]) i',[.cells false false n.cells]⟩)) := by
 have e1 := yB3 n.states n.z1 n.st h1
 have e2 := yB3 n.states n.z2 n.fi h2
 have k2 : L.loop xOW xXa ⟨xM5 (.ptr 0 0) s2 (.agg [iw n.z1 n.st,iw n.z2 n.fi]) (.int .i64 2),[.cells false false n.cells]⟩ = some (.exit 1,⟨xM5 (.ptr 0 0) s2 (.agg [iw n.z1 n.st,iw n.z2 n.fi]) (.int .i64 2),[.cells false false n.cells]⟩) := by
  rw [xOX]
  simp (maxSteps := 30000000) (disch := first | assumption | omega | (simp only [WL,AV.isCell,xAa] <;> omega) | rfl | decide) only [xM4,WB,↓reduceIte,xMg]
 have g : ∀ l,xIP n.states l = 0 ∨ xIP n.states l = 8 := fun l => by unfold xIP; split <;> simp
 rcases g n.st with c1 | c1
 ·rcases g n.fi with c2 | c2
  ·refine ⟨.int .i64 2,?_⟩
   rw [c1] at e1
   rw [c2] at e2
   rw [if_pos ⟨c1,c2⟩,xOX]
   simp (maxSteps := 30000000) (disch := first | assumption | omega | (simp only [WL,AV.isCell,xAa] <;> omega) | rfl | decide) only [xM4,WB,Int.reduceLT,↓reduceIte,WA,e1,xE0,xAJ,xMg]
   rw [xOX]
   simp (maxSteps := 30000000) (disch := first | assumption | omega | (simp only [WL,AV.isCell,xAa] <;> omega) | rfl | decide) only [xM4,WB,Int.reduceLT,↓reduceIte,WA,e2,xE0,xAJ,Int.reduceAdd,xMg,k2]
  ·refine ⟨.int .i64 1,?_⟩
   rw [c1] at e1
   rw [c2] at e2
   rw [if_neg (by omega),xOX]
   simp (maxSteps := 30000000) (disch := first | assumption | omega | (simp only [WL,AV.isCell,xAa] <;> omega) | rfl | decide) only [xM4,WB,Int.reduceLT,↓reduceIte,WA,e1,xE0,xAJ,xMg]
   rw [xOX]
   simp (maxSteps := 30000000) (disch := first | assumption | omega | (simp only [WL,AV.isCell,xAa] <;> omega) | rfl | decide) only [xM4,WB,Int.reduceLT,↓reduceIte,WA,e2,xE0,xAJ,Int.reduceEq,xMg]
 ·refine ⟨.int .i64 0,?_⟩
  rw [c1] at e1
  rw [if_neg (by omega),xOX]
  simp (maxSteps := 30000000) (disch := first | assumption | omega | (simp only [WL,AV.isCell,xAa] <;> omega) | rfl | decide) only [xM4,WB,Int.reduceLT,↓reduceIte,WA,e1,xE0,xAJ,Int.reduceEq,xMg]
set_option maxHeartbeats 4000000 in
theorem xPD {n : Aut} {v : Nat} {s2 : AV} (hv : v ≤ 6) (hnv : n.vars = (v : Nat)) (hl : n.rl.length < 1099511627776) (hb : ∀ e ∈ n.rl,e.p < 256 ∧ e.n < 256) : ∀ d i T,i + d = n.rl.length →
  ∃ (T' : Heap) (i' : Nat),L.loop xQ0 xZU ⟨xOY (.ptr 0 0) s2 (.sl n.z3 n.rl.length (rls n.rl)) (.int .i64 (n.rl.length : Nat)) (.int .i64 (i : Nat)),.cells false false n.cells :: T⟩ =
   some (if xJj n.states v (n.rl.drop i) = 0 then (.exit 3,⟨xOY (.ptr 0 0) s2 (.sl n.z3 n.rl.length (rls n.rl)) (.int .i64 (n.rl.length : Nat)) (.int .i64 (n.rl.length : Nat)),.cells false false n.cells :: T'⟩)
    else (.ret,⟨xOY (.ptr 0 0) (.int .i64 (xJj n.states v (n.rl.drop i))) (.sl n.z3 n.rl.length (rls n.rl)) (.int .i64 (n.rl.length : Nat)) (.int .i64 (i' : Nat)),.cells false false n.cells :: T'⟩))
 | 0,i,T,h => by
  obtain rfl : i = n.rl.length := by omega
  refine ⟨T,0,?_⟩
  rw [if_pos (by rw [List.drop_length]; rfl),xQ1]
  simp (maxSteps := 30000000) (disch := first | assumption | omega | (simp only [WL,AV.isCell,xAa] <;> omega) | rfl | decide) only [xM6,WB,↓reduceIte,xM7]
 | d + 1,i,T,h => by
  have hlt : (i : Int) < (n.rl.length : Nat) := by omega
  have hm := hb _ (xIN (by omega : i < n.rl.length))
  have hcube := xYp v (n.rl.getD i r0).p (n.rl.getD i r0).n hv hm.1 hm.2
  rw [xHR (by omega : i < n.rl.length)]
  by_cases c1 : min (min (n.rl.getD i r0).l (n.rl.getD i r0).r) (n.rl.getD i r0).t < 0
  ·refine ⟨T ++ [.cells false false (xGI (n.rl.getD i r0))],i,?_⟩
   have ee : xNf n.states v (n.rl.getD i r0) = 8 := if_pos (.inl c1)
   rw [xHz (by rw [ee]; omega),ee,if_neg (by omega),xQ1]
   simp (maxSteps := 30000000) (disch := first | assumption | omega | (simp only [WL,AV.isCell,xAa] <;> omega) | rfl | decide) only [xM6,WB,hlt,↓reduceIte,xCF,AV.cells,AV.isCell,Nat.reduceAdd,xSs,xLg,xLf,c1,xM7,xGI]
  ·by_cases c2 : n.states ≤ max (max (n.rl.getD i r0).l (n.rl.getD i r0).r) (n.rl.getD i r0).t
   ·refine ⟨T ++ [.cells false false (xGI (n.rl.getD i r0))],i,?_⟩
    have ee : xNf n.states v (n.rl.getD i r0) = 8 := if_pos (.inr c2)
    rw [xHz (by rw [ee]; omega),ee,if_neg (by omega),xQ1]
    simp (maxSteps := 30000000) (disch := first | assumption | omega | (simp only [WL,AV.isCell,xAa] <;> omega) | rfl | decide) only [xM6,WB,hlt,↓reduceIte,xCF,AV.cells,AV.isCell,Nat.reduceAdd,xSs,xLg,xLf,c1,xQd,c2,xM7,xGI]
   ·have ee : xNf n.states v (n.rl.getD i r0) = xLh v (n.rl.getD i r0).p (n.rl.getD i r0).n := if_neg (by omega)
    by_cases c3 : xLh v (n.rl.getD i r0).p (n.rl.getD i r0).n = 0
    ·obtain ⟨T',i',ih⟩ := xPD (s2 := s2) hv hnv hl hb d (i + 1) (T ++ [.cells false false (xGI (n.rl.getD i r0))]) (by omega)
     refine ⟨T',i',?_⟩
     rw [c3] at hcube
     rw [xSB (by rw [ee]; exact c3),xQ1]
     simp only [xGI] at ih
     by_cases e : xJj n.states v (n.rl.drop (i + 1)) = 0
     ·rw [if_pos e] at ih ⊢
      simp (maxSteps := 30000000) (disch := first | assumption | omega | (simp only [WL,AV.isCell,xAa] <;> omega) | rfl | decide) only [xM6,WB,hlt,↓reduceIte,xCF,AV.cells,AV.isCell,Nat.reduceAdd,xSs,xLg,xLf,c1,xQd,c2,Nat.reduceLeDiff,hnv,hcube,xE0,xAJ,xM7,ih]
     ·rw [if_neg e] at ih ⊢
      simp (maxSteps := 30000000) (disch := first | assumption | omega | (simp only [WL,AV.isCell,xAa] <;> omega) | rfl | decide) only [xM6,WB,hlt,↓reduceIte,xCF,AV.cells,AV.isCell,Nat.reduceAdd,xSs,xLg,xLf,c1,xQd,c2,Nat.reduceLeDiff,hnv,hcube,xE0,xAJ,xM7,ih]
    ·refine ⟨T ++ [.cells false false (xGI (n.rl.getD i r0))],i,?_⟩
     rw [xHz (by rw [ee]; exact c3),ee,if_neg c3,xQ1]
     simp (maxSteps := 30000000) (disch := first | assumption | omega | (simp only [WL,AV.isCell,xAa] <;> omega) | rfl | decide) only [xM6,WB,hlt,↓reduceIte,xCF,AV.cells,AV.isCell,Nat.reduceAdd,xSs,xLg,xLf,c1,xQd,c2,Nat.reduceLeDiff,hnv,hcube,xE0,xAJ,c3,xM7,xGI]
def xKJ (n : Aut) : Int :=
 if n.vars < 0 ∨ 3 < n.vars then 7 else if n.states < 0 then 1 else if 64 < n.states ∨ 512 < n.rl.length then 4
 else if xIP n.states n.st = 0 ∧ xIP n.states n.fi = 0 then xJj n.states n.vars.toNat n.rl else 8
set_option maxHeartbeats 4000000 in
theorem xJp (n : Aut) (h1 : n.st.length < 1099511627776) (h2 : n.fi.length < 1099511627776) (h3 : n.rl.length < 1099511627776) (hb : ∀ e ∈ n.rl,e.p < 256 ∧ e.n < 256) : L.pcall 14 [n.av] = some (.int .i64 (xKJ n)) := by
 have e5 : ((512 : Int) < (n.rl.length : Nat)) = (512 < n.rl.length) := propext ⟨fun h => by omega,fun h => by omega⟩
 unfold xKJ
 rw [yHR,a14,xAd]
 by_cases c1 : n.vars < 0
 ·rw [if_pos (.inl c1)]
  simp (maxSteps := 30000000) (disch := first | assumption | omega | (simp only [WL,AV.isCell,xAa] <;> omega) | rfl | decide) only [WB,Nat.reduceSub,AV.cells,AV.isCell,↓reduceIte,c1]
 ·by_cases c2 : 3 < n.vars
  ·rw [if_pos (.inr c2)]
   simp (maxSteps := 30000000) (disch := first | assumption | omega | (simp only [WL,AV.isCell,xAa] <;> omega) | rfl | decide) only [WB,Nat.reduceSub,AV.cells,AV.isCell,↓reduceIte,c1,c2]
  ·rw [if_neg (by omega)]
   by_cases c3 : n.states < 0
   ·rw [if_pos c3]
    simp (maxSteps := 30000000) (disch := first | assumption | omega | (simp only [WL,AV.isCell,xAa] <;> omega) | rfl | decide) only [WB,Nat.reduceSub,AV.cells,AV.isCell,↓reduceIte,c1,c2,c3]
   ·rw [if_neg c3]
    by_cases c4 : 64 < n.states
    ·rw [if_pos (.inl c4)]
     simp (maxSteps := 30000000) (disch := first | assumption | omega | (simp only [WL,AV.isCell,xAa] <;> omega) | rfl | decide) only [WB,Nat.reduceSub,AV.cells,AV.isCell,↓reduceIte,c1,c2,c3,c4]
    ·by_cases c5 : 512 < n.rl.length
     ·rw [if_pos (.inr c5)]
      simp (maxSteps := 30000000) (disch := first | assumption | omega | (simp only [WL,AV.isCell,xAa] <;> omega) | rfl | decide) only [WB,Nat.reduceSub,AV.cells,AV.isCell,↓reduceIte,c1,c2,c3,c4,e5,c5]
     ·rw [if_neg (by omega)]
      obtain ⟨i',g⟩ := xVT n (s2 := .int .i64 0) h1 h2
      by_cases c6 : xIP n.states n.st = 0 ∧ xIP n.states n.fi = 0
      ·rw [if_pos c6] at g ⊢
       obtain ⟨v,hv⟩ : ∃ v : Nat,n.vars = (v : Nat) := ⟨n.vars.toNat,by omega⟩
       have htv : n.vars.toNat = v := by omega
       obtain ⟨T',i2,g2⟩ := xPD (n := n) (v := v) (s2 := .int .i64 0) (by omega) hv h3 hb n.rl.length 0 [] (by omega)
       simp only [Int.natCast_zero,List.drop_zero] at g2
       rw [htv]
       by_cases c7 : xJj n.states v n.rl = 0
       ·rw [if_pos c7] at g2
        rw [c7]
        simp (maxSteps := 30000000) (disch := first | assumption | omega | (simp only [WL,AV.isCell,xAa] <;> omega) | rfl | decide) only [WB,Nat.reduceSub,AV.cells,AV.isCell,↓reduceIte,c1,c2,c3,c4,e5,c5,Nat.reduceAdd,Nat.reduceLeDiff,xMg,g,xM7,g2]
       ·rw [if_neg c7] at g2
        simp (maxSteps := 30000000) (disch := first | assumption | omega | (simp only [WL,AV.isCell,xAa] <;> omega) | rfl | decide) only [WB,Nat.reduceSub,AV.cells,AV.isCell,↓reduceIte,c1,c2,c3,c4,e5,c5,Nat.reduceAdd,Nat.reduceLeDiff,xMg,g,xM7,g2]
      ·rw [if_neg c6] at g ⊢
       simp (maxSteps := 30000000) (disch := first | assumption | omega | (simp only [WL,AV.isCell,xAa] <;> omega) | rfl | decide) only [WB,Nat.reduceSub,AV.cells,AV.isCell,↓reduceIte,c1,c2,c3,c4,e5,c5,Nat.reduceAdd,Nat.reduceLeDiff,xMg,g]
end Go.Abs.Tree
