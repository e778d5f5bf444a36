/- The reference's nodes; equal formulas; bytes copied and overwritten. -/
import Derived.Test.YtdheandekcpieaaDoorAbsBun
import Derived.Test.YtdheandekcpieaaDoorAME
import Derived.Test.YtdheandekcpieaaDoorAMG
import Derived.Test.YtdheandekcpieaaDoorAMF
namespace Go.Abs.Events
open Go Go.Abs
set_option maxHeartbeats 4000000
set_option linter.unusedSimpArgs false
set_option linter.unusedVariables false
section
variable {fs : List Nd} {z : Bool}
abbrev F15 (z : Bool) (fs : List Nd) (v : AV) (i : Nat) : List AV := xJ8 (.sl z fs.length (nds fs)) v (.int .i64 (i : Nat))
theorem yA6 (hl : fs.length ≤ 1000) : ∀ k i,i + k = fs.length → ∀ (G : Heap) (v : AV) (out : List Nd),out.length = i → Gn G v out → ∃ (G' : Heap) (v' : AV),
  L.loop xIp xRo ⟨F15 z fs v i,G⟩ = some (.exit 0,⟨F15 z fs v' fs.length,G'⟩) ∧ Gn G' v' (out ++ fs.drop i) := by
 intro k
 induction k with
 | zero =>
  intro i hi G v out ho hg
  obtain rfl : i = fs.length := by omega
  refine ⟨G,v,?_,by simpa using hg⟩
  rw [xTF]
  simp (maxSteps := 30000000) (disch := first|exact D5|fail) only [xM6,WB,↓reduceIte,xM7]
 | succ k ih =>
  intro i hi G v out ho hg
  have hlt : i < fs.length := by omega
  have hltI : ((i : Nat) : Int) < (fs.length : Nat) := by omega
  have em : fs.drop i = fs.getD i nd0 :: fs.drop (i + 1) := xDp hlt
  rw [em]
  generalize hn : fs.getD i nd0 = n at *
  have hnv : xBN n.z n.args = .sl n.z n.args.length (xAJ n.args) := rfl
  rcases hg with ⟨rfl,rfl⟩ | ⟨o,rfl,go,hne⟩
  ·obtain ⟨G',v',e1,g1⟩ := ih (i + 1) (by omega) (G ++ [.cells false false (nds [n])]) (.own false G.length 0 1 6) [n] (by simp at ho ⊢; omega)
    (.inr ⟨G.length,rfl,by rw [List.getElem?_append_right (Nat.le_refl _),Nat.sub_self]; rfl,by simp⟩)
   refine ⟨G',v',?_,by simpa using g1⟩
   have hN : nds [n] = n.c := by simp [rows]
   rw [hN] at e1
   unfold Nd.c at e1
   rw [hnv] at e1
   rw [xTF]
   simp (maxSteps := 30000000) (disch := first|exact D5|fail) only [xM6,WB,hltI,↓reduceIte,xAN,Nd.c,hn,hnv,AV.cells,Nat.reduceAdd,Nat.reduceMul,AV.isCell,Nat.reduceBEq,xM7,e1]
  ·have lo := xAv go
   obtain ⟨G',v',e1,g1⟩ := ih (i + 1) (by omega) (G.set o .dead ++ [.cells false false (nds (out ++ [n]))]) (.own false G.length 0 (out.length + 1) 6) (out ++ [n]) (by simp; omega)
    (.inr ⟨G.length,by simp,by rw [List.getElem?_append_right (by simp),List.length_set,Nat.sub_self]; rfl,by simp⟩)
   refine ⟨G',v',?_,by simpa using g1⟩
   have hN : nds out ++ n.c = nds (out ++ [n]) := by rw [← xUi]; simp [rows]
   unfold Nd.c at hN
   rw [hnv] at hN
   have hnl := xAc out
   have hnt := xFK out
   generalize nds (out ++ [n]) = L2 at *
   generalize nds out = L1 at *
   rw [ho] at *
   rw [xTF]
   simp (maxSteps := 30000000) (disch := first|exact D5|fail) only [xM6,WB,hltI,↓reduceIte,xAN,Nd.c,hn,hnv,AV.cells,Nat.reduceAdd,Nat.reduceMul,AV.isCell,go,Nat.reduceBEq,hnt,hN,xM7,e1]
theorem xUW (z : Bool) (fs : List Nd) (hl : fs.length ≤ 1000) : L.pcall 15 [.sl z fs.length (nds fs)] = some (.sl fs.isEmpty fs.length (nds fs)) := by
 obtain ⟨G',v',e1,g1⟩ := yA6 (z := z) hl fs.length 0 (by omega) [] (.sl true 0 []) [] rfl (.inl ⟨rfl,rfl⟩)
 rw [List.nil_append,List.drop_zero] at g1
 have e1' : L.loop xIp xRo ⟨xJ8 (.sl z fs.length (nds fs)) (.sl true 0 []) (.int .i64 0),[]⟩ = _ := e1
 rcases g1 with ⟨rfl,rfl⟩ | ⟨o,rfl,go,hne⟩
 ·show _ = some (AV.sl true 0 [])
  rw [yC2,a15,xAd]
  simp (disch := omega) only [WB,Nat.reduceSub,xM7]
  show xPT (xOt _ (xVA _ _ (xFy 0 (L.loop xIp xRo ⟨xJ8 (.sl z ([] : List Nd).length (nds [])) (.sl true 0 []) (.int .i64 0),[]⟩)))) = _
  rw [e1']
  simp (disch := omega) only [WB,↓reduceIte]
 ·have hnl := xAc fs
  have hnt := xFK fs
  have hfr := fun d H => xLo d H fs
  have hem : fs.isEmpty = false := by
   cases fs with
   | nil => exact absurd rfl hne
   | cons _ _ => rfl
  rw [hem]
  generalize nds fs = L1 at *
  rw [yC2,a15,xAd]
  simp (disch := omega) only [WB,Nat.reduceSub,xM7,e1',↓reduceIte,xBl,go,hnt,hfr]
end
section
variable {z1 z2 : Bool} {l : List Int}
theorem yA7 (hl : l.length ≤ 1000) : ∀ k i,i + k = l.length → L.loop xKm xTP ⟨xKn (.sl z1 l.length (xAJ l)) (.sl z2 l.length (xAJ l)) (.bool false) (.int .i64 (i : Nat)),[]⟩ =
  some (.exit 0,⟨xKn (.sl z1 l.length (xAJ l)) (.sl z2 l.length (xAJ l)) (.bool false) (.int .i64 (l.length : Nat)),[]⟩) := by
 intro k
 induction k with
 | zero =>
  intro i hi
  obtain rfl : i = l.length := by omega
  rw [xXd]
  simp (maxSteps := 30000000) (disch := first|exact D5|fail) only [xQj,WB,↓reduceIte,xTQ]
 | succ k ih =>
  intro i hi
  have hlt : ((i : Nat) : Int) < (l.length : Nat) := by omega
  have ih' := ih (i + 1) (by omega)
  generalize hx : l.getD i 0 = x at *
  rw [xXd]
  simp (maxSteps := 30000000) (disch := first|exact D5|fail) only [xQj,WB,hlt,↓reduceIte,W2,hx,xAl,xTQ,ih']
theorem yCO (hl : l.length ≤ 1000) : L.pcall 45 [.sl z1 l.length (xAJ l),.sl z2 l.length (xAJ l)] = some (.bool true) := by
 have h := yA7 (z1 := z1) (z2 := z2) hl l.length 0 (by omega)
 have h' : L.loop xKm xTP ⟨xKn (.sl z1 l.length (xAJ l)) (.sl z2 l.length (xAJ l)) (.bool false) (.int .i64 0),[]⟩ = _ := h
 rw [yDy,a45,xAd]
 simp (disch := omega) only [WB,Nat.reduceAdd,Nat.reduceSub,↓reduceIte,xTQ,h']
variable {fs : List Nd}
theorem yA8 (hl : fs.length ≤ 1000) (ha : ∀ j,j < fs.length → (fs.getD j nd0).args.length ≤ 1000) : ∀ k i,i + k = fs.length → ∀ G,∃ G',L.loop xJ6 xTD ⟨xJ7 (.sl z1 fs.length (nds fs)) (.sl z2 fs.length (nds fs)) (.bool false) (.int .i64 (i : Nat)),G⟩ =
  some (.exit 0,⟨xJ7 (.sl z1 fs.length (nds fs)) (.sl z2 fs.length (nds fs)) (.bool false) (.int .i64 (fs.length : Nat)),G'⟩) := by
 intro k
 induction k with
 | zero =>
  intro i hi G
  obtain rfl : i = fs.length := by omega
  refine ⟨G,?_⟩
  rw [xXa]
  simp (maxSteps := 30000000) (disch := first|exact D5|fail) only [xQe,WB,↓reduceIte,xTE]
 | succ k ih =>
  intro i hi G
  have hlt0 : i < fs.length := by omega
  have hlt : ((i : Nat) : Int) < (fs.length : Nat) := by omega
  have hal := ha i hlt0
  obtain ⟨G',ih'⟩ := ih (i + 1) (by omega) (G ++ [.cells false false (fs.getD i nd0).c,.cells false false (fs.getD i nd0).c])
  refine ⟨G',?_⟩
  generalize hn : fs.getD i nd0 = n at *
  have h45 := yCO (z1 := n.z) (z2 := n.z) hal
  have hnv : xBN n.z n.args = .sl n.z n.args.length (xAJ n.args) := rfl
  unfold Nd.c at ih'
  rw [hnv] at ih'
  rw [xXa]
  simp (maxSteps := 30000000) (disch := first|exact D5|fail) only [xQe,WB,hlt,↓reduceIte,xAN,Nd.c,hn,hnv,AV.cells,AV.isCell,xAl,Nat.reduceAdd,xCe,xDS,xIK,xUu,xU0,h45,xAO,xAt,xTE,ih']
end
theorem yCP {z1 z2 : Bool} {fs : List Nd} (hl : fs.length ≤ 1000) (ha : ∀ j,j < fs.length → (fs.getD j nd0).args.length ≤ 1000) : L.pcall 14 [.sl z1 fs.length (nds fs),.sl z2 fs.length (nds fs)] = some (.bool true) := by
 obtain ⟨G',h⟩ := yA8 (z1 := z1) (z2 := z2) hl ha fs.length 0 (by omega) []
 have h' : L.loop xJ6 xTD ⟨xJ7 (.sl z1 fs.length (nds fs)) (.sl z2 fs.length (nds fs)) (.bool false) (.int .i64 0),[]⟩ = _ := h
 rw [yDr,a14,xAd]
 simp (disch := omega) only [WB,Nat.reduceAdd,Nat.reduceSub,↓reduceIte,xTE,h']
theorem xZv {z1 z2 : Bool} {fs : List Nd} (hl : fs.length ≤ 1000) (ha : ∀ j,j < fs.length → (fs.getD j nd0).args.length ≤ 1000) : L.pcall 31 [.sl z1 fs.length (nds fs),.sl z2 fs.length (nds fs)] = some (.bool true) := by
 have h1 := xUW z1 fs hl
 have h2 := xUW z2 fs hl
 have h3 := yCP (z1 := fs.isEmpty) (z2 := fs.isEmpty) hl ha
 rw [yDw,a31,xAd]
 simp (disch := omega) only [WB,Nat.reduceAdd,Nat.reduceSub,h1,xAO,xAt,↓reduceIte,h2,h3]
theorem xQM {fs : List Nd} (hV : ∀ j,j < fs.length → Vn j (fs.getD j nd0)) : ∀ t : Tr,t.ok → ∀ p,Seg fs p t → txt fs (p + t.sz - 1) = t.tt
 | .t0 n,h,p,hs => by
  obtain ⟨h1,h2⟩ := yCX hs
  show txt fs (p + 1 - 1) = _
  rw [Nat.add_sub_cancel,xNB hV h2,h1]
  unfold xAG
  dsimp only
  rw [if_neg (by rw [h.2]; decide),if_neg (by rw [h.2]; decide)]
  rfl
 | .t1 n a,h,p,hs => by
  have hp := a.sz_pos
  obtain ⟨h0,h1,h2⟩ := yCY hs
  have ih := xQM hV a h.2.2 p h0
  show txt fs (p + (a.sz + 1) - 1) = _
  rw [show p + (a.sz + 1) - 1 = p + a.sz by omega,xNB hV h2,h1]
  unfold xAG
  dsimp only
  rw [if_neg (by rw [h.2.1]; decide),if_pos h.2.1,show (((p + a.sz : Nat) : Int) - 1).toNat = p + a.sz - 1 by omega]
  show wrp n.op (Lib.join (hdW n ++ [txt fs (p + a.sz - 1)]) [32]) = _
  rw [ih]; rfl
 | .t2 n a b,h,p,hs => by
  have hp := a.sz_pos
  have hq := b.sz_pos
  obtain ⟨h0,h0',h1,h2⟩ := yCZ hs
  have ih := xQM hV a h.2.2.1 p h0
  have ih2 := xQM hV b h.2.2.2 (p + a.sz) h0'
  show txt fs (p + (a.sz + b.sz + 1) - 1) = _
  rw [show p + (a.sz + b.sz + 1) - 1 = p + a.sz + b.sz by omega,xNB hV h2,h1]
  unfold xAG
  dsimp only
  rw [if_pos h.2.1,show (((p + a.sz : Nat) : Int) - 1).toNat = p + a.sz - 1 by omega,show (((p + a.sz + b.sz : Nat) : Int) - 1).toNat = p + a.sz + b.sz - 1 by omega]
  show wrp n.op (Lib.join (hdW n ++ [txt fs (p + a.sz - 1),txt fs (p + a.sz + b.sz - 1)]) [32]) = _
  rw [ih,ih2]; rfl
theorem xXA {t : Tr} (h : t.ok) (hz : t.sz ≤ 64) (ho : t.op 0 = false) : fmt (t.nd 0) = t.tt := by
 have hc := xIo h hz ho
 obtain ⟨h0,hl,hV⟩ := xNC hc
 unfold fmt
 rw [if_pos hc]
 have := xQM hV t h 0 (xW6 t)
 rwa [Nat.zero_add,show t.sz - 1 = (t.nd 0).length - 1 by rw [t.nd_len]] at this
theorem xA0 {α β : Type} {x : PR α} {f : α → List UInt8 → PR β} {rr : List UInt8} {e : Nat} (h : x.bind f = .bad rr e) : x = .bad rr e ∨ ∃ a q,x = .ok a q ∧ f a q = .bad rr e := by
 cases x with
 | ok a q => exact .inr ⟨a,q,rfl,h⟩
 | bad q e' => cases h; exact .inl rfl
theorem xLF {p : UInt8 → Bool} {e e' : Nat} {r rr : List UInt8} (h : xF5 p e r = .bad rr e') (he : e ≠ 0) : e' ≠ 0 ∧ rr.length ≤ r.length := by
 cases r with
 | nil => cases h; exact ⟨by decide,Nat.le_refl _⟩
 | cons c q =>
  by_cases hp : p c = true
  ·rw [xDL e q hp] at h; cases h
  ·have : xF5 p e (c :: q) = .bad (c :: q) e := if_neg hp
   rw [this] at h; cases h
   exact ⟨he,Nat.le_refl _⟩
theorem xOX {c : UInt8} {r rr : List UInt8} {e : Nat} (h : xFs c r = .bad rr e) : e ≠ 0 ∧ rr.length ≤ r.length := by
 rcases xA0 h with h | ⟨a,q,_,h2⟩
 ·exact xLF h (by decide)
 ·cases h2
theorem xUX {cs r rr : List UInt8} {e : Nat} (h : xRc cs r = .bad rr e) : e ≠ 0 ∧ rr.length ≤ r.length := by
 rcases xA0 h with h | ⟨u,q,h1,h2⟩
 ·exact xOX h
 ·have hr := xA5 h1
  rcases xA0 h2 with h2 | ⟨a,q2,_,h4⟩
  ·have := xLF h2 (by decide)
   rw [hr,List.length_cons]
   exact ⟨this.1,by omega⟩
  ·cases h4
theorem xZw {ins : Bool} {r rr : List UInt8} {e : Nat} (h : xEZ ins r = .bad rr e) : e ≠ 0 ∧ rr.length ≤ r.length := by
 unfold xEZ at h
 rcases xA0 h with h | ⟨c,q,h1,h2⟩
 ·exact xLF h (by decide)
 ·obtain ⟨q',rfl,rfl,hc⟩ := xB3 h1
  split at h2
  ·cases h2
  ·cases h2; exact ⟨by decide,Nat.le_refl _⟩
theorem xUY : ∀ {k least : Nat} {r rr : List UInt8} {e : Nat},xDF k least r = .bad rr e → e ≠ 0 ∧ rr.length ≤ r.length
 | 0,least,r,rr,e,h => by cases h
 | k + 1,least,r,rr,e,h => by
  unfold xDF at h
  split at h
  ·cases h
  ·rcases xA0 h with h | ⟨t,q,h1,h2⟩
   ·exact xUX h
   ·obtain ⟨c,rfl,hm,rfl⟩ := xB4 h1
    rcases xA0 h2 with h2 | ⟨vs,q2,_,h4⟩
    ·have := xUY h2
     simp only [List.length_cons]
     exact ⟨this.1,by omega⟩
    ·cases h4
theorem xZx : ∀ (k many : Nat) (l : List Nd) (r rr : List UInt8) (e : Nat),xBV k many l r = .bad rr e → r.length < k → e ≠ 0 ∧ rr.length ≤ r.length := by
 intro k
 induction k with
 | zero => intro many l r rr e h hk; omega
 | succ k ih =>
  intro many l r rr e hp hk
  unfold xBV at hp
  rcases xA0 hp with hp | ⟨c,q0,h1,hp⟩
  ·exact xLF hp (by decide)
  obtain ⟨q0',rfl,rfl,hcs⟩ := xB3 h1
  split at hp
  ·cases hp; exact ⟨by decide,Nat.le_refl _⟩
  have hle : (if c = 40 then (c :: q0').tail else c :: q0').length ≤ (c :: q0').length := by split <;> simp
  rcases xA0 hp with hp | ⟨op,r1,hname,hp⟩
  ·have := xZw hp
   exact ⟨this.1,by omega⟩
  obtain ⟨c2,q2,hr2,hc2,hpop,hr1⟩ := xFM hname
  have hs1 : r1.length < (c :: q0').length := by
   have h3 := xTs hpop
   have hi := xLx hpop
   have h4 := xOU hi.1 hi.2.1
   have h5 := congrArg List.length (xFN (if c = 40 then (c :: q0').tail else c :: q0'))
   rw [List.length_append,← hr1] at h5
   rw [← h3] at h5
   omega
  rcases xA0 hp with hp | ⟨nm,r2,hnm,hp⟩
  ·by_cases c2 : op = 2
   ·rw [if_pos c2] at hp
    have := xUX hp
    exact ⟨this.1,by omega⟩
   ·rw [if_neg c2] at hp; cases hp
  have hs2 : r2.length ≤ r1.length := by
   by_cases c2 : op = 2
   ·rw [if_pos c2] at hnm
    obtain ⟨d,rfl,_,_⟩ := xB4 hnm
    simp; omega
   ·rw [if_neg c2] at hnm; cases hnm; exact Nat.le_refl _
  rcases xA0 hp with hp | ⟨x,r3,hx,hp⟩
  ·by_cases c2 : op = 7
   ·rw [if_pos c2] at hp
    rcases xA0 hp with hp | ⟨v,q,_,h4⟩
    ·have := xUX hp
     exact ⟨this.1,by omega⟩
    ·cases h4
   ·rw [if_neg c2] at hp; cases hp
  have hs3 : r3.length ≤ r2.length := by
   by_cases c2 : op = 7
   ·rw [if_pos c2] at hx
    obtain ⟨v,q',hx1,hx2⟩ := xAr hx
    cases hx2
    obtain ⟨d,rfl,_,_⟩ := xB4 hx1
    simp; omega
   ·rw [if_neg c2] at hx; cases hx; exact Nat.le_refl _
  rcases xA0 hp with hp | ⟨us,r4,has,hp⟩
  ·have := xUY hp
   exact ⟨this.1,by omega⟩
  have hfl : flo op ≤ fhi op := by
   unfold flo fhi
   by_cases c3 : op = 3
   ·rw [if_pos c3,if_pos (.inr c3)]; exact Nat.le_refl _
   ·rw [if_neg c3]; omega
  have hs4 : r4.length ≤ r3.length := by
   have := congrArg List.length (xFC _ _ _ _ _ hfl has).1
   rw [List.length_append] at this; omega
  have kid : ∀ {m l' r' rr' e'},r'.length ≤ r4.length → ((xFs 32 r').bind fun _ r => xBV k m l' r) = .bad rr' e' → e' ≠ 0 ∧ rr'.length ≤ (c :: q0').length := by
   intro m l' r' rr' e' hr' hp
   rcases xA0 hp with hp | ⟨w,q,hp1,hp2⟩
   ·have := xOX hp
    exact ⟨this.1,by omega⟩
   ·have hr := xA5 hp1
    rw [hr,List.length_cons] at hr'
    have := ih _ _ _ _ _ hp2 (by omega)
    exact ⟨this.1,by omega⟩
  rcases xA0 hp with hp | ⟨p,r5,hA,hp⟩
  ·by_cases c1 : 1 ≤ chn op
   ·rw [if_pos c1] at hp
    exact kid (Nat.le_refl _) hp
   ·rw [if_neg c1] at hp; cases hp
  have hs5 : r5.length ≤ r4.length := by
   by_cases c1 : 1 ≤ chn op
   ·rw [if_pos c1] at hA
    obtain ⟨w,q,hp1,hp2⟩ := xAr hA
    obtain ⟨t,_,t2,_,_⟩ := xEi _ _ _ _ p.1 p.2 _ hp2
    rw [xA5 hp1,t2]; simp; omega
   ·rw [if_neg c1] at hA; cases hA; exact Nat.le_refl _
  rcases xA0 hp with hp | ⟨q,r6,hB,hp⟩
  ·by_cases c1 : chn op = 2
   ·rw [if_pos c1] at hp
    exact kid hs5 hp
   ·rw [if_neg c1] at hp; cases hp
  have hs6 : r6.length ≤ r5.length := by
   by_cases c1 : chn op = 2
   ·rw [if_pos c1] at hB
    obtain ⟨w,q',hp1,hp2⟩ := xAr hB
    obtain ⟨t,_,t2,_,_⟩ := xEi _ _ _ _ q.1 q.2 _ hp2
    rw [xA5 hp1,t2]; simp; omega
   ·rw [if_neg c1] at hB; cases hB; exact Nat.le_refl _
  rcases xA0 hp with hp | ⟨u,r7,hI,hp⟩
  ·by_cases c4 : c = 40
   ·rw [if_pos c4] at hp
    have := xOX hp
    exact ⟨this.1,by omega⟩
   ·rw [if_neg c4] at hp; cases hp
  ·cases hp
theorem xZy : ∀ (k many : Nat) (l : List Nd) (r : List UInt8) (m' : Nat) (l' : List Nd) (r' : List UInt8),xBV k many l r = .ok (m',l') r' → many ≤ 64 → m' ≤ 64 := by
 intro k
 induction k with
 | zero => intro many l r m' l' r' hp; cases hp
 | succ k ih =>
  intro many l r m' l' r' hp hm
  unfold xBV at hp
  obtain ⟨c,q0,h1,hp⟩ := xAr hp
  split at hp
  ·cases hp
  rename_i hmany
  obtain ⟨op,r1,hname,hp⟩ := xAr hp
  obtain ⟨nm,r2,hnm,hp⟩ := xAr hp
  obtain ⟨x,r3,hx,hp⟩ := xAr hp
  obtain ⟨us,r4,has,hp⟩ := xAr hp
  obtain ⟨p,r5,hA,hp⟩ := xAr hp
  obtain ⟨q,r6,hB,hp⟩ := xAr hp
  obtain ⟨u,r7,hI,hp⟩ := xAr hp
  cases hp
  have h1 : p.1 ≤ 64 := by
   by_cases c1 : 1 ≤ chn op
   ·rw [if_pos c1] at hA
    obtain ⟨w,q,hp1,hp2⟩ := xAr hA
    exact ih _ _ _ p.1 p.2 _ hp2 (by omega)
   ·rw [if_neg c1] at hA; cases hA; show many + 1 ≤ 64; omega
  by_cases c1 : chn op = 2
  ·rw [if_pos c1] at hB
   obtain ⟨w,q',hp1,hp2⟩ := xAr hB
   exact ih _ _ _ q.1 q.2 _ hp2 h1
  ·rw [if_neg c1] at hB; cases hB; exact h1
theorem xOY {S : List UInt8} (hS : S.length ≤ 4096) : (∃ t : Tr,t.ok ∧ t.sz ≤ 64 ∧ t.op 0 = false ∧ S = t.tt ∧ parse S = (t.nd 0,0,0)) ∨ ∃ a e,parse S = ([],a,e) ∧ e ≠ 0 ∧ a ≤ S.length := by
 unfold parse
 rw [if_neg (by omega)]
 cases hp : xBV (S.length + 1) 0 [] S with
 | bad r e =>
  have := xZx _ _ _ _ _ _ hp (by omega)
  exact .inr ⟨S.length - r.length,e,rfl,this.1,by omega⟩
 | ok p r =>
  obtain ⟨m',l⟩ := p
  obtain ⟨t,t1,t2,t3,t4⟩ := xEi _ _ _ _ _ _ _ hp
  dsimp only
  by_cases c : r = []
  ·rw [if_neg (fun q => q c)]
   rw [c,List.append_nil] at t2
   rw [List.nil_append] at t3
   subst t3
   rw [show ([] : List Nd).length = 0 from rfl,xTr t t1]
   cases ho : t.op 0 with
   | true => rw [if_pos rfl]; exact .inr ⟨0,11,rfl,by decide,by omega⟩
   | false =>
    rw [if_neg (by simp)]
    refine .inl ⟨t,t1,?_,ho,t2,rfl⟩
    have := xZy _ _ _ _ _ _ _ hp (by omega)
    omega
  ·rw [if_pos c]; exact .inr ⟨_,5,rfl,by decide,by omega⟩
end Go.Abs.Events
