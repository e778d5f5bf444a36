/- What comes in; the formula that is looked at. -/
import Derived.Test.YtdheandekcpieaaDoorAME
import Derived.Test.YtdheandekcpieaaDoorAbsIn
import Derived.Test.YtdheandekcpieaaDoorAbsBun
namespace Go.Abs.Events
open Go Go.Abs
set_option linter.unusedSimpArgs false
set_option linter.unusedVariables false
theorem xRY {α : Type} {f : α → AV} {P : α → Prop} : ∀ (cs : List AV),(∀ x ∈ cs,∃ a,x = f a ∧ P a) → ∃ l : List α,cs = l.map f ∧ ∀ a ∈ l,P a
  | [],_ => ⟨[],rfl,by simp⟩
  | x :: cs,h => by
    obtain ⟨a,rfl,ha⟩ := h x (by simp)
    obtain ⟨l,rfl,hl⟩ := xRY cs (fun x hx => h x (by simp [hx]))
    exact ⟨a :: l,rfl,by simp; exact ⟨ha,hl⟩⟩
theorem xRZ {a : AV} (h : Fit (.sl [.int .i64]) a) : ∃ (z : Bool) (l : List Int),a = xCD z l ∧ (z = true → l = []) := by
  obtain ⟨z,cs,rfl,hz,_,hf⟩ := yAp h
  obtain ⟨l,rfl,_⟩ := xRY (f := fun n : Int => AV.int .i64 n) (P := fun _ => True) cs (fun x hx => by obtain ⟨n,rfl,_⟩ := xFc (hf x hx); exact ⟨n,rfl,trivial⟩)
  exact ⟨z,l,by simp [xCD,xBE],by simpa using hz⟩
abbrev yAh : List CS := [.int .u8,.int .i64,.sl [.int .i64],.int .i64,.int .i64,.int .i64]
abbrev CEv : List CS := [.int .i64,.sl [.int .i64]]
def xS2 : TS := ⟨false,[.sl yAh]⟩
def xLH : TS := ⟨false,[.sl CEv]⟩
def yEJ : TS := ⟨false,[.int .i64]⟩
theorem xPZ {α : Type} {f : α → List AV} {P : α → Prop} : ∀ (rs : List (List AV)),(∀ r ∈ rs,∃ a,r = f a ∧ P a) → ∃ l : List α,rs = l.map f ∧ ∀ a ∈ l,P a
  | [],_ => ⟨[],rfl,by simp⟩
  | x :: cs,h => by
    obtain ⟨a,rfl,ha⟩ := h x (by simp)
    obtain ⟨l,rfl,hl⟩ := xPZ cs (fun x hx => h x (by simp [hx]))
    exact ⟨a :: l,rfl,by simp; exact ⟨ha,hl⟩⟩
theorem xP0 {a : AV} (h : Fit (.sl yAh) a) : ∃ (z : Bool) (l : List Nd),a = .sl z l.length (nds l) := by
  cases h with
  | nil => exact ⟨true,[],rfl⟩
  | @sl _ rs hn hl hr =>
    obtain ⟨l,rfl,-⟩ := xPZ (f := Nd.c) (P := fun _ => True) rs (fun r hr' => by
      have hfa : FitAll yAh r := ⟨hl r hr',hr r hr'⟩
      obtain ⟨a1,cs,rfl,h1,h'⟩ := xCb hfa
      obtain ⟨a2,cs,rfl,h2,h'⟩ := xCb h'
      obtain ⟨a3,cs,rfl,h3,h'⟩ := xCb h'
      obtain ⟨a4,cs,rfl,h4,h'⟩ := xCb h'
      obtain ⟨a5,cs,rfl,h5,h'⟩ := xCb h'
      obtain ⟨a6,cs,rfl,h6,h'⟩ := xCb h'
      obtain rfl := xLP h'
      obtain ⟨o,rfl,-⟩ := xY9 h1
      obtain ⟨nm,rfl,-⟩ := xFc h2
      obtain ⟨z,l,rfl,-⟩ := xRZ h3
      obtain ⟨x,rfl,-⟩ := xFc h4
      obtain ⟨a,rfl,-⟩ := xFc h5
      obtain ⟨b,rfl,-⟩ := xFc h6
      exact ⟨⟨o,nm,z,l,x,a,b⟩,rfl,trivial⟩)
    exact ⟨false,l,by simp [rows,List.flatMap]⟩
theorem xP1 {a : AV} (h : Fit (.sl CEv) a) : ∃ (z : Bool) (l : List Ev),a = .sl z l.length (evs l) ∧ l.length ≤ 9223372036854775807 := by
  cases h with
  | nil => exact ⟨true,[],rfl,by simp⟩
  | @sl _ rs hn hl hr =>
    obtain ⟨l,rfl,-⟩ := xPZ (f := evC) (P := fun _ => True) rs (fun r hr' => by
      have hfa : FitAll CEv r := ⟨hl r hr',hr r hr'⟩
      obtain ⟨a1,cs,rfl,h1,h'⟩ := xCb hfa
      obtain ⟨a2,cs,rfl,h2,h'⟩ := xCb h'
      obtain rfl := xLP h'
      obtain ⟨nm,rfl,-⟩ := xFc h1
      obtain ⟨z,l,rfl,-⟩ := xRZ h2
      exact ⟨⟨nm,z,l⟩,rfl,trivial⟩)
    have hm : maxLen ≤ 9223372036854775807 := by decide
    refine ⟨false,l,by simp [rows,List.flatMap],?_⟩
    rw [List.length_map] at hn
    omega
def inL (fs : List Nd) : List Nd := (xHm fs).take 40
def inV (fs : List Nd) : AV := .sl (xHm fs).isEmpty (inL fs).length (nds (inL fs))
theorem xGE (fs : List Nd) : (inL fs).length = min (xHm fs).length 40 := by simp [inL,Nat.min_comm]
theorem xR0 (fs : List Nd) : ∀ j,j < (inL fs).length → WN ((inL fs).getD j nd0) := by
  intro j hj
  have hm : (inL fs).getD j nd0 ∈ inL fs := by rw [List.getD_eq_getElem?_getD,List.getElem?_eq_getElem hj]; exact List.getElem_mem hj
  have := List.mem_of_mem_take hm
  unfold xHm at this
  obtain ⟨n,-,hn⟩ := List.mem_map.1 this
  rw [← hn]; rfl
theorem yC2 {fs : List Nd} (h : (inL fs).length ≠ 0) : (xHm fs).isEmpty = false := by
  have := xGE fs
  cases hf : xHm fs with
  | nil => rw [hf] at this; simp at this; exact absurd (by simp [this]) h
  | cons _ _ => rfl
theorem xV2 (fs : List Nd) : min (((xHm fs).length : Nat) : Int) 40 = ((inL fs).length : Nat) := by rw [xGE]; omega
theorem yAi (fs : List Nd) : xBI (xHm fs).length none (some (.int .i64 ((inL fs).length : Nat))) none = some (0,(inL fs).length) := by
  rw [xEt (Int.natCast_nonneg _) (by rw [xGE]; omega)]
  simp
theorem yAj (fs : List Nd) : List.take ((inL fs).length * 6) (nds (xHm fs)) = nds (inL fs) := by
  have h : xHm fs = inL fs ++ (xHm fs).drop 40 := (List.take_append_drop 40 _).symm
  have h2 : nds (xHm fs) = nds (inL fs) ++ nds ((xHm fs).drop 40) := by rw [xWm,← h]
  rw [h2,List.take_append_of_le_length (by rw [xAk]; omega),xFX]
theorem xP2 (fs : List Nd) (z : Bool) (l : List Ev) (hl : l.length ≤ 9223372036854775807) : L.pcall 33 [inV fs,.sl z l.length (evs l),.int .i64 12] =
    some (.tup [if chk (inL fs) = 0 then .sl (xCQ 12 l).isEmpty (xCQ 12 l).length (bls (vL (inL fs) (xCQ 12 l) (zr (nT (inL fs))))) else .sl true 0 [],
      .sl (xCQ 12 l).isEmpty (xCQ 12 l).length (evs (xCQ 12 l)),.bool (decide (chk (inL fs) = 0))]) :=
  xS6 (xR0 fs) (by have := xGE fs; omega) _ yC2 z l hl
theorem xV3 (fs : List Nd) : ∀ (k : Nat) (es : List Ev) (ws : List (List Nat)),vL fs (es.take k) ws = (vL fs es ws).take k
  | 0,es,ws => by simp [vL]
  | k + 1,[],ws => rfl
  | k + 1,e :: es,ws => by simp [vL,xV3 fs k es]
theorem yCc {l : List Ev} {k : Nat} (h : k ≤ l.length) : List.take (k * 2) (evs l) = evs (l.take k) := by
  have h2 : evs l = evs (l.take k) ++ evs (l.drop k) := by rw [xWn,List.take_append_drop]
  have h3 : (l.take k).length = k := by simp; omega
  rw [h2]
  have := xHA (l.take k)
  rw [h3] at this
  rw [List.take_append_of_le_length (by rw [xAv,h3]; omega),this]
theorem yCd {l : List Bool} {k : Nat} : List.take k (bls l) = bls (l.take k) := by simp [bls,List.map_take]
set_option maxHeartbeats 4000000 in
theorem yAk (z : Bool) (fs : List Nd) (zl : Bool) (l : List Ev) (hl : l.length ≤ 9223372036854775807) (n : Int) (hn : -9223372036854775808 ≤ n ∧ n ≤ 9223372036854775807) :
    L.pcall 8 [.sl z fs.length (nds fs),.sl zl l.length (evs l),.int .i64 n] = some (.bool true) := by
  have h18 := yAC z fs
  have h33 := xP2 fs zl l hl
  have hk := xP5
  have hnl := xAk (xHm fs)
  have hmin := xV2 fs
  have hbd := yAi fs
  have htk := yAj fs
  unfold inV at h33
  have hgl := xEI 12 l
  have hgo := xMB 12 l
  generalize hfe : (xHm fs).isEmpty = ze at *
  have hz0 : ∀ h : (inL fs).length ≠ 0,ze = false := fun h => by rw [← hfe]; exact yC2 h
  have hwn := xR0 fs
  generalize inL fs = F at *
  generalize xCQ 12 l = V at *
  by_cases hc : chk F = 0
  · obtain ⟨h0,hlen,-⟩ := xMz hc
    obtain rfl := hz0 (by omega)
    rw [if_pos hc,decide_eq_true hc] at h33
    have hvl := xHg F V (zr (nT F))
    by_cases hV : V.length = 0
    · have hV' : V = [] := List.eq_nil_of_length_eq_zero hV
      subst hV'
      have h35 := xO8 hc hwn true [] (by simp)
      have h35' : L.pcall 35 [.sl false F.length (nds F),.sl true 0 []] = some (.tup [.sl true 0 [],.int .i64 0]) := h35
      have h33' : L.pcall 33 [.sl false F.length (nds F),.sl zl l.length (evs l),.int .i64 12] = some (.tup [.sl true 0 [],.sl true 0 [],.bool true]) := h33
      have h36 : L.pcall 36 [.sl true 0 [],.sl true 0 []] = some (.bool true) := yD5 (z1 := true) (z2 := true) (a := []) (b := []) (by simp)
      rw [a8p,a8,xAl]
      simp (maxSteps := 30000000) (disch := first | assumption | omega | (simp only [WL,AV.isCell,xAf,xAm,xAk,xAv,xAx] <;> omega) | rfl | decide) only [↓reduceIte,WB,xAH,xAc,xAC,xAq,xAo,AV.cells,AV.isCell,xAa,xAg,xAh,xA7,xA8,xA9,xBa,xBb,xBc,xBH,xBd,xBe,xAT,xBf,xAU,xAV,xBg,xAW,xAX,xAD,Nat.reduceDiv,Nat.reduceMod,WP,xBt,xA2,xCt,xCr,xCk,xBk,xBy,xBv,WA,W2,xAd,xAe,xAi,Nat.reduceAdd,Nat.reduceSub,Nat.reduceLeDiff,Nat.reduceMul,Int.reduceAdd,Int.reduceSub,Int.reduceMul,Int.reduceLT,Int.reduceLE,Int.reduceEq,Int.reduceToNat,Int.reduceNeg,Nat.reduceEqDiff,Nat.reduceBEq,Nat.reduceLT,xAu,xAE,xAG,xAJ,xAL,xAK,xAy,xAA,xAp,xAj,xAQ,xA6,h18,hnl,hmin,hbd,htk,h33',h35',h36,hk]
    · have hVi : (0 : Int) < (V.length : Nat) := by omega
      have hVn : ¬ ((V.length : Nat) : Int) = 0 := by omega
      have hb1 : -(V.length : Int) < n.tmod (V.length : Nat) ∧ n.tmod (V.length : Nat) < (V.length : Nat) := by
        have h1 := Int.lt_tmod_of_pos n hVi
        have h2 := Int.tmod_lt_of_pos n hVi
        omega
      obtain ⟨k,hk1,hk2⟩ : ∃ k : Nat,(n.tmod (V.length : Nat) + (V.length : Nat)).tmod (V.length : Nat) = (k : Nat) ∧ k < V.length := by
        have h1 := Int.tmod_nonneg (V.length : Int) (show 0 ≤ n.tmod (V.length : Nat) + (V.length : Nat) by omega)
        have h2 := Int.tmod_lt_of_pos (n.tmod (V.length : Nat) + (V.length : Nat)) hVi
        exact ⟨((n.tmod (V.length : Nat) + (V.length : Nat)).tmod (V.length : Nat)).toNat,by omega,by omega⟩
      have htl : (V.take k).length = k := by simp; omega
      have hok : (V.take k).all xF1 = true := by
        rw [List.all_eq_true] at hgo ⊢
        exact fun x hx => hgo x (List.mem_of_mem_take hx)
      have h35 := xO8 hc hwn V.isEmpty (V.take k) (by omega)
      rw [if_pos hok,xV3,htl] at h35
      have hbe := yCc (show k ≤ V.length by omega)
      generalize vL F V (zr (nT F)) = W at *
      have h36 := yD5 (z1 := (V.take k).isEmpty) (z2 := V.isEmpty) (a := W.take k) (b := W.take k) (by simp; omega)
      have hwl : (W.take k).length = k := by simp; omega
      rw [hwl,decide_eq_true rfl] at h36
      have hbk := yCd (l := W) (k := k)
      have hbL := xAx W
      have heL := xAv V
      rw [hvl] at hbL
      have hbdv : xBI V.length none (some (.int .i64 (k : Nat))) none = some (0,k) := by
        rw [xEt (Int.natCast_nonneg _) (by omega)]; simp
      generalize V.length = VL at *
      generalize evs V = EV at *
      generalize bls W = BW at *
      generalize hr1 : n.tmod (VL : Nat) = r1 at *
      have hw : IntKind.i64.wrap (r1 + (VL : Nat)) = r1 + (VL : Nat) := yDX (by omega) (by omega)
      rw [a8p,a8,xAl]
      simp (maxSteps := 30000000) (disch := first | assumption | omega | (simp only [WL,AV.isCell,xAf,xAm,xAk,xAv,xAx] <;> omega) | rfl | decide) only [↓reduceIte,WB,xAH,xAc,xAC,xAq,xAo,AV.cells,AV.isCell,xAa,xAg,xAh,xA7,xA8,xA9,xBa,xBb,xBc,xBH,xBd,xBe,xAT,xBf,xAU,xAV,xBg,xAW,xAX,xAD,Nat.reduceDiv,Nat.reduceMod,WP,xBt,xA2,xCt,xCr,xCk,xBk,xBy,xBv,WA,W2,xAd,xAe,xAi,Nat.reduceAdd,Nat.reduceSub,Nat.reduceLeDiff,Nat.reduceMul,Int.reduceAdd,Int.reduceSub,Int.reduceMul,Int.reduceLT,Int.reduceLE,Int.reduceEq,Int.reduceToNat,Int.reduceNeg,Nat.reduceEqDiff,Nat.reduceBEq,Nat.reduceLT,xAu,xAE,xAG,xAJ,xAL,xAK,xAy,xAA,xAp,xAj,xAQ,xA6,h18,hnl,hmin,hbd,htk,h33,hVi,hVn,hr1,hw,hk1,hbdv,hbL,heL,hbe,hbk,h35,h36,hk]
  · rw [if_neg hc,decide_eq_false hc] at h33
    rw [a8p,a8,xAl]
    simp (maxSteps := 30000000) (disch := first | assumption | omega | (simp only [WL,AV.isCell,xAf,xAm,xAk,xAv,xAx] <;> omega) | rfl | decide) only [↓reduceIte,WB,xAH,xAc,xAC,xAq,xAo,AV.cells,AV.isCell,xAa,xAg,xAh,xA7,xA8,xA9,xBa,xBb,xBc,xBH,xBd,xBe,xAT,xBf,xAU,xAV,xBg,xAW,xAX,xAD,Nat.reduceDiv,Nat.reduceMod,WP,xBt,xA2,xCt,xCr,xCk,xBk,xBy,xBv,WA,W2,xAd,xAe,xAi,Nat.reduceAdd,Nat.reduceSub,Nat.reduceLeDiff,Nat.reduceMul,Int.reduceAdd,Int.reduceSub,Int.reduceMul,Int.reduceLT,Int.reduceLE,Int.reduceEq,Int.reduceToNat,Int.reduceNeg,Nat.reduceEqDiff,Nat.reduceBEq,Nat.reduceLT,xAu,xAE,xAG,xAJ,xAL,xAK,xAy,xAA,xAp,xAj,xAQ,xA6,h18,hnl,hmin,hbd,htk,h33,hk]
theorem law8 (avs : List AV) (h : xLS [xS2,xLH,yEJ] avs) : L.pcall 8 avs = some (.bool true) := by
  obtain ⟨v1,avs,rfl,f1,h⟩ := xCJ h
  obtain ⟨v2,avs,rfl,f2,h⟩ := xCJ h
  obtain ⟨v3,avs,rfl,f3,h⟩ := xCJ h
  obtain rfl := xJE h
  obtain ⟨z,fs,rfl⟩ := xP0 (xDV f1)
  obtain ⟨zl,l,rfl,hl⟩ := xP1 (xDV f2)
  obtain ⟨n,rfl,hn⟩ := xFc (xDV f3)
  exact yAk z fs zl l hl n hn
end Go.Abs.Events
