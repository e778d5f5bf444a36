/- The parser's panics: formula. -/
import Derived.Test.YtdheandekcpieaaDoorAMN
import Derived.Test.YtdheandekcpieaaDoorAMW
import Derived.Test.YtdheandekcpieaaDoorAMG
import Derived.Test.YtdheandekcpieaaDoorAbsBun
namespace Go.Abs.Events
open Go Go.Abs Go.Proofs
set_option linter.unusedSimpArgs false
set_option linter.unusedVariables false
theorem xA8 {α β : Type} {x : PR α} {f : α → List UInt8 → PR β} {rr : List UInt8} {e : Nat} (h : x.bind f = .bad rr e) : x = .bad rr e ∨ ∃ a q,x = .ok a q ∧ f a q = .bad rr e := by
 cases x with
 | ok a q => exact .inr ⟨a,q,rfl,h⟩
 | bad q e' => cases h; exact .inl rfl
theorem xRD {p : UInt8 → Bool} {e e' : Nat} {r rr : List UInt8} (h : xBU p e r = .bad rr e') : (r = [] ∧ rr = [] ∧ e' = 3) ∨ ∃ c q,r = c :: q ∧ p c = false ∧ rr = r ∧ e' = e := by
 cases r with
 | nil => cases h; exact .inl ⟨rfl,rfl,rfl⟩
 | cons c q =>
  by_cases hp : p c = true
  ·rw [xPG e q hp] at h; cases h
  ·have : xBU p e (c :: q) = .bad (c :: q) e := if_neg hp
   rw [this] at h; cases h
   exact .inr ⟨c,q,rfl,by simpa using hp,rfl,rfl⟩
section
variable {G G0 : Heap} {rb at_ many : Nat} {S r rr cs : List UInt8} {lv : AV} {e e' : Nat} {ix io op : Nat} {nm x a b : Int} {ins : Bool}
theorem xQo (hd : S.drop at_ = r) (hal : at_ ≤ S.length) : S.length - r.length = at_ := by
 have := congrArg List.length hd
 rw [List.length_drop] at this; omega
theorem xGH (hP : P1) (h : RD G rb S at_ lv many) (hS : S.length ≤ 4096) (hd : S.drop at_ = r) (hal : at_ ≤ S.length) {p : UInt8 → Bool} (hpc : ∀ c,cs.contains c = p c) (hp : xBU p e r = .bad rr e') : Thr PP 70 [.ptr rb 0,zS cs,.int .i64 (e : Nat)] G 82 (wv (S.length - rr.length) e') G := by
 rcases xRD hp with ⟨h1,h2,h3⟩ | ⟨c,q,h1,h2,h3,h4⟩
 ·subst h2; subst h3
  have ha := xQo hd hal
  rw [h1] at ha
  simp only [List.length_nil,Nat.sub_zero] at ha ⊢
  rw [ha]
  exact xTX hP h hS ha.symm
 ·subst h3; subst h4
  rw [xQo hd hal]
  rw [h1] at hd
  exact xTY hP h hS (xAX hd).1 (by rw [hpc]; exact h2)
theorem xGI (hP : P1) {c : UInt8} (h : RD G rb S at_ lv many) (hS : S.length ≤ 4096) (hd : S.drop at_ = r) (hal : at_ ≤ S.length) (hp : xBV c r = .bad rr e') : Thr PP 73 [.ptr rb 0,zS [c]] G 82 (wv (S.length - rr.length) e') G := by
 rcases xA8 hp with hp | ⟨a,q,_,h2⟩
 ·exact yCU hP (xGH hP h hS hd hal (fun d => by rw [List.contains_cons]; exact Bool.or_false _) hp)
 ·cases h2
theorem xNN (hP : P1) (h : RD G rb S at_ lv many) (hS : S.length ≤ 4096) (hd : S.drop at_ = r) (hal : at_ ≤ S.length) (hp : xIj cs r = .bad rr e') : ∃ G',Thr PP 72 [.ptr rb 0,zS cs] G 82 (wv (S.length - rr.length) e') G' ∧ Kt G.length rb G G' := by
 rcases xA8 hp with hp | ⟨u,q,h1,h2⟩
 ·exact ⟨G,yAL hP (xGI hP h hS hd hal hp),.refl _ _ _⟩
 ·have hr := xBx h1
  obtain ⟨a1,a2,a3⟩ := xAX (hd.trans hr)
  have lo := xAp (show G[rb]? = some _ from h)
  have hn := xCD (cs := [32]) h hS a1 (by decide)
  have h' : RD (G.set rb (rdB S (at_ + 1) lv many)) rb S (at_ + 1) lv many := by unfold RD; rw [List.getElem?_set_self lo]
  rcases xA8 h2 with h2 | ⟨c,q2,h3,h4⟩
  ·exact ⟨_,yAM hP hn (xGH (e := 1) hP h' hS a2 a3 (fun d => rfl) h2),Kt.set⟩
  ·cases h4
theorem xU1 (hP : P1) (h : RD G rb S at_ lv many) (hS : S.length ≤ 4096) (hd : S.drop at_ = r) (hal : at_ ≤ S.length) (hp : xFH ins r = .bad rr e') : Thr PP 71 [.ptr rb 0,.bool ins] G 82 (wv (S.length - rr.length) e') G := by
 unfold xFH at hp
 rcases xA8 hp with hp | ⟨c,q,h1,h2⟩
 ·exact yAN hP (xGH (e := 2) hP h hS hd hal (fun d => by rw [List.contains_cons,xJn]) hp)
 ·obtain ⟨q',rfl,rfl,hc⟩ := xCE h1
  split at h2
  ·cases h2
  ·rename_i ho
   cases h2
   rw [xQo hd hal]
   exact yAO hP h hS hd hc ho
theorem xU2 (hP : P1) {B : Nat} {s3 : AV} (hS : S.length ≤ 4096) (hne1 : rb ≠ ix) (hne2 : rb ≠ io) (hne3 : ix ≠ io) (hB1 : B ≤ ix) (hB2 : B ≤ io) : ∀ k (G : Heap) (F : List AV) (at_ : Nat) (av : AV) (ts : List Int) (r : List UInt8),xAu xAT F = xAI (.ptr rb 0) s3 (.ptr ix 0) (.ptr io 0) → RD G rb S at_ lv many → S.drop at_ = r → at_ ≤ S.length → ts.length + k = fhi op →
   xCs k (flo op - ts.length) r = .bad rr e → G[ix]? = some (xB op nm av x a b) → G[io]? = some (.cells false false (foC op)) → PT G B rb ix io av ts →
  ∃ G' F',TR PP L1 (.loop xAT xBb xLb) ⟨F,G⟩ 82 (wv (S.length - rr.length) e) ⟨F',G'⟩ ∧ Kt B rb G G' := by
 intro k
 induction k with
 | zero => intro G F at_ av ts r hF h hr hal hk hp hx ho hA; cases hp
 | succ k ih =>
  intro G F at_ av ts r hF h hr hal hk hp hx ho hA
  unfold xCs at hp
  split at hp
  ·cases hp
  rename_i hstop
  have lo := xAp (show G[rb]? = some _ from h)
  have lx := xAp hx
  have lio := xAp ho
  rcases xA8 hp with hp | ⟨t,q,h1,h2⟩
  ·obtain ⟨G',ht,hk'⟩ := xNN hP h hS hr hal hp
   have hkB : Kt B rb G G' := hk'.low (by omega)
   have go : (∃ F',TR PP L1 xLb ⟨xAI (.ptr rb 0) s3 (.ptr ix 0) (.ptr io 0),G⟩ 82 (wv (S.length - rr.length) e) ⟨F',G'⟩) → ∃ G' F',TR PP L1 (.loop xAT xBb xLb) ⟨F,G⟩ 82 (wv (S.length - rr.length) e) ⟨F',G'⟩ ∧ Kt B rb G G' := by
    rintro ⟨F',hT⟩
    refine ⟨G',F',.loop ?_,hkB⟩
    show TR PP L1 xLb ⟨xAu xAT F,G⟩ _ _ _
    rw [hF]; exact hT
   apply go
   rcases hA with ⟨rfl,rfl⟩ | ⟨ka,rfl,ga,hnil,hBk,k1,k2,k3⟩
   ·have hl0 : 0 < fhi op := by simp at hk; omega
    by_cases hlo : 0 < flo op
    ·exact xM7 (c := 0) h hS hx ho hl0 hlo ht
    ·cases hr' : r with
     | nil => exact xK2 (c := 0) h hS hx ho hl0 hlo (by have := xQo hr hal; rw [hr'] at this; simpa using this.symm) ht
     | cons c q =>
      rw [hr'] at hr hstop
      exact xM8 h hS hx ho hl0 hlo (xAX hr).1 (by rintro rfl; exact hstop ⟨by simp; omega,rfl⟩) ht
   ·have hl0 : ts.length < fhi op := by omega
    by_cases hlo : ts.length < flo op
    ·exact xM9 (c := 0) h hS hx ho ga hl0 hlo ht
    ·cases hr' : r with
     | nil => exact xK3 (c := 0) h hS hx ho ga hl0 hlo (by have := xQo hr hal; rw [hr'] at this; simpa using this.symm) ht
     | cons c q =>
      rw [hr'] at hr hstop
      exact xNa h hS hx ho ga hl0 hlo (xAX hr).1 (by rintro rfl; exact hstop ⟨by omega,rfl⟩) ht
  ·obtain ⟨c,rfl,hm,rfl⟩ := xCN h1
   obtain ⟨a1,a2,a3⟩ := xAX hr
   obtain ⟨b1,b2,b3⟩ := xAX a2
   have h2' : xCs k (flo op - ts.length - 1) q = .bad rr e := by
    rcases xA8 h2 with h2 | ⟨vs,q2,_,h4⟩
    ·exact h2
    ·cases h4
   have step : ∀ (G1 : Heap) (av1 : AV),RD G1 rb S (at_ + 2) lv many → G1[ix]? = some (xB op nm av1 x a b) → G1[io]? = some (.cells false false (foC op)) → PT G1 B rb ix io av1 (ts ++ [((splB.idxOf c : Nat) : Int)]) → Kt B rb G G1 →
     (∃ F1,run L1 xBb ⟨xAI (.ptr rb 0) s3 (.ptr ix 0) (.ptr io 0),G⟩ = some (.normal,⟨F1,G1⟩) ∧ xAu xAT F1 = xAI (.ptr rb 0) s3 (.ptr ix 0) (.ptr io 0)) →
     ∃ G' F',TR PP L1 (.loop xAT xBb xLb) ⟨F,G⟩ 82 (wv (S.length - rr.length) e) ⟨F',G'⟩ ∧ Kt B rb G G' := by
    rintro G1 av1 g1 g2 g3 g4 g5 ⟨F1,g6,g7⟩
    obtain ⟨G',F',e1,e2⟩ := ih G1 F1 (at_ + 2) av1 (ts ++ [((splB.idxOf c : Nat) : Int)]) q g7 g1 b2 (by omega) (by simp; omega) (by rw [List.length_append,List.length_singleton,← Nat.sub_sub]; exact h2') g2 g3 g4
    refine ⟨G',F',.loopN (s1 := ⟨F1,G1⟩) ?_ e1,g5.trans e2⟩
    show run L1 xBb ⟨xAu xAT F,G⟩ = _
    rw [hF]; exact g6
   rcases hA with ⟨rfl,rfl⟩ | ⟨ka,rfl,ga,hnil,hBk,k1,k2,k3⟩
   ·refine step (List.set (G.set rb (rdB S (at_ + 2) lv many)) ix (xB op nm (.own false G.length 0 1 1) x a b) ++ [.cells false false [.int .i64 (splB.idxOf c : Nat)]]) (.own false G.length 0 1 1) ?_ ?_ ?_ ?_ ?_ ?_
    ·unfold RD
     rw [List.getElem?_append_left (by simpa using lo),List.getElem?_set_ne (Ne.symm hne1),List.getElem?_set_self lo]
    ·rw [List.getElem?_append_left (by simpa using lx),List.getElem?_set_self (by simpa using lx)]
    ·rw [List.getElem?_append_left (by simpa using lio),List.getElem?_set_ne hne3,List.getElem?_set_ne hne2]; exact ho
    ·exact .inr ⟨G.length,rfl,by rw [List.getElem?_append_right (by simp)]; simp [xAG],by simp,by omega,by omega,by omega,by omega⟩
    ·exact (Kt.set.trans (Kp.set hB1).kt).trans (Kp.appB _ _ (by simp; omega)).kt
    ·by_cases hlo : 0 < flo op
     ·exact xJo h hS hr hm hx ho hne1 hne2 hne3 (by simp at hk; omega) hlo
     ·exact xJp h hS hr hm hx ho hne1 hne2 hne3 (by simp at hk; omega) hlo
   ·have lk := xAp ga
    refine step (List.set (List.set (G.set rb (rdB S (at_ + 2) lv many)) ka Blk.dead) ix (xB op nm (.own false G.length 0 (ts.length + 1) 1) x a b) ++ [.cells false false (xAG (ts ++ [((splB.idxOf c : Nat) : Int)]))]) (.own false G.length 0 (ts.length + 1) 1) ?_ ?_ ?_ ?_ ?_ ?_
    ·unfold RD
     rw [List.getElem?_append_left (by simpa using lo),List.getElem?_set_ne (Ne.symm hne1),List.getElem?_set_ne k1,List.getElem?_set_self lo]
    ·rw [List.getElem?_append_left (by simpa using lx),List.getElem?_set_self (by simpa using lx)]
    ·rw [List.getElem?_append_left (by simpa using lio),List.getElem?_set_ne hne3,List.getElem?_set_ne k3,List.getElem?_set_ne hne2]; exact ho
    ·exact .inr ⟨G.length,by simp,by rw [List.getElem?_append_right (by simp)]; simp,by simp,by omega,by omega,by omega,by omega⟩
    ·exact ((Kt.set.trans (Kp.set hBk).kt).trans (Kp.set hB1).kt).trans (Kp.appB _ _ (by simp; omega)).kt
    ·by_cases hlo : ts.length < flo op
     ·exact xJq h hS hr hm hx ho hne1 hne2 hne3 ga rfl k1 k2 k3 (by omega) hlo
     ·exact xJr h hS hr hm hx ho hne1 hne2 hne3 ga rfl k1 k2 k3 (by omega) hlo
end
end Go.Abs.Events
/- The parser's panics: formula,whole. -/
namespace Go.Abs.Events
open Go Go.Abs Go.Proofs
set_option linter.unusedSimpArgs false
set_option linter.unusedVariables false
abbrev yDG : TCode := .seq xUz m12 .no
abbrev yDh : TCode := .seq xPT m11 yDG
abbrev yDi : TCode := .seq xPS m10 yDh
abbrev tl9 : TCode := .seq pc9 m9 yDi
abbrev tl8 : TCode := .seq pc8 m8 tl9
abbrev tl7 : TCode := .seq pc7 m7 tl8
abbrev tl6 : TCode := .seq pc6 .no tl7
abbrev tl5 : TCode := .seq pc5 m5 tl6
abbrev tl4 : TCode := .seq pc4 .no tl5
abbrev tl3 : TCode := .seq pc3 .no tl4
abbrev tl2 : TCode := .seq pc2 m2 tl3
abbrev tl1 : TCode := .seq pc1 m1 tl2
def TRx (c : TCode) (F : List AV) (G : Heap) (v : AV) (G' : Heap) : Prop := ∃ F',TR PP L1 c ⟨F,G⟩ 82 v ⟨F',G'⟩
theorem TRx.l {x : ACode} {a b : TCode} {F : List AV} {G G' : Heap} {v : AV} (h : TRx a F G v G') : TRx (.seq x a b) F G v G' := by
 obtain ⟨F',h⟩ := h
 exact ⟨F',.seqL h⟩
theorem TRx.r {x : ACode} {a b : TCode} {F F1 : List AV} {G G1 G' : Heap} {v : AV} (e : run L1 x ⟨F,G⟩ = some (.normal,⟨F1,G1⟩)) (h : TRx b F1 G1 v G') : TRx (.seq x a b) F G v G' := by
 obtain ⟨F',h⟩ := h
 exact ⟨F',.seqR e h⟩
theorem yBB (hP : P1) {rb : Nat} {G G' : Heap} {v : AV} (h : TRx (.seq pc0 .no tl1) ([.ptr rb 0] ++ pads 133) G v G') : Thr PP 41 [.ptr rb 0] G 82 v G' := by
 refine thr_of' hP (tf := t41) rfl ?_
 rw [xVO]
 exact h
theorem yDH {G G' G2 : Heap} {X : Nat → Prop} {rb : Nat} {lv : AV} {l : List Nd} (hPL : PL G X lv l) (hXb : ∀ b,X b → b < G.length) (hk : Keep G lv rb G') (h2 : Kt G.length rb G' G2) : ∀ b,X b → b ≠ rb → G2[b]? = G[b]? := fun b hb hr =>
 (h2.2 b (hXb b hb) hr).trans (hk.2 b (hXb b hb) hr (hPL.nb hb))
set_option maxHeartbeats 2000000 in
theorem xXv (hP : P1) {rb : Nat} {S : List UInt8} (hS : S.length ≤ 4096) : ∀ (k many : Nat) (l : List Nd) (r rr : List UInt8) (e : Nat) (G : Heap) (at_ : Nat) (lv : AV) (X : Nat → Prop),RD G rb S at_ lv many → S.drop at_ = r → at_ ≤ S.length → PL G X lv l → X rb → (∀ b,X b → b < G.length) → l.length ≤ many → many ≤ 64 → xCh k many l r = .bad rr e → r.length < k →
  ∃ G',Thr PP 41 [.ptr rb 0] G 82 (wv (S.length - rr.length) e) G' ∧ ∀ b,X b → b ≠ rb → G'[b]? = G[b]? := by
 intro k
 induction k with
 | zero => intro many l r rr e G at_ lv X h hd hal hPL hXr hXb hlm hm64 hp hrk; omega
 | succ k ih =>
  intro many l r rr e G at_ lv X h hd hal hPL hXr hXb hlm hm64 hp hrk
  have lo := xAp (show G[rb]? = some _ from h)
  have hlt := hPL.lt
  obtain ⟨F1,e0,f1⟩ := st0 (G := G) (xPU (n := 133) rb rfl)
  have go0 : ∀ {G'},TRx tl1 F1 G (wv (S.length - rr.length) e) G' → (∀ b,X b → b ≠ rb → G'[b]? = G[b]?) → ∃ G',Thr PP 41 [.ptr rb 0] G 82 (wv (S.length - rr.length) e) G' ∧ ∀ b,X b → b ≠ rb → G'[b]? = G[b]? := fun hT hk => ⟨_,yBB hP (.r e0 hT),hk⟩
  unfold xCh at hp
  rcases xA8 hp with hp | ⟨c,q0,h1,hp⟩
  ·exact go0 (.l (pt1 f1 (xGH (cs := 40 :: ltB) (e := 2) hP h hS hd hal (fun d => by rw [List.contains_cons,xJn]) hp))) fun _ _ _ => rfl
  obtain ⟨q0',rfl,rfl,hcs⟩ := xCE h1
  obtain ⟨a1,a2,a3⟩ := xAX hd
  obtain ⟨F2,e1,f2⟩ := st1 f1 h hS a1 hcs
  by_cases hmany : many = 64
  ·rw [if_pos hmany] at hp
   cases hp
   refine go0 (.r e1 (.l ?_)) fun _ _ _ => rfl
   rw [xQo hd hal]
   exact pt2 f2 h hmany
  rw [if_neg hmany] at hp
  obtain ⟨F3,e2,f3⟩ := st2 f2 h (by omega)
  obtain ⟨F4,e3,f4⟩ := st3 f3 h (by omega)
  have hA1 : RD (G.set rb (rdB S at_ lv (many + 1))) rb S at_ lv (many + 1) := by unfold RD; rw [List.getElem?_set_self lo]
  obtain ⟨F5,at1,e4,f5,d1,l1⟩ : ∃ F5 at1,run L1 pc4 ⟨F4,G.set rb (rdB S at_ lv (many + 1))⟩ = some (.normal,⟨F5,G.set rb (rdB S at1 lv (many + 1))⟩) ∧ FrB F5 rb (c == 40) ∧ S.drop at1 = (if c = 40 then (c :: q0').tail else c :: q0') ∧ at1 ≤ S.length := by
   by_cases c4 : c = 40
   ·have hi : (c == 40) = true := by rw [c4]; rfl
    obtain ⟨F5,e,f⟩ := yDx f4 hi hA1 (by omega)
    rw [List.set_set] at e
    exact ⟨F5,at_ + 1,e,f,by rw [if_pos c4]; exact a2,a3⟩
   ·have hi : (c == 40) = false := by simpa using c4
    obtain ⟨F5,e,f⟩ := yDy (G := G.set rb (rdB S at_ lv (many + 1))) f4 hi
    exact ⟨F5,at_,e,f,by rw [if_neg c4]; exact hd,hal⟩
  have hA2 : RD (G.set rb (rdB S at1 lv (many + 1))) rb S at1 lv (many + 1) := by unfold RD; rw [List.getElem?_set_self lo]
  have go4 : ∀ {G'},TRx tl5 F5 (G.set rb (rdB S at1 lv (many + 1))) (wv (S.length - rr.length) e) G' → (∀ b,X b → b ≠ rb → G'[b]? = G[b]?) → ∃ G',Thr PP 41 [.ptr rb 0] G 82 (wv (S.length - rr.length) e) G' ∧ ∀ b,X b → b ≠ rb → G'[b]? = G[b]? := fun hT hk => go0 (.r e1 (.r e2 (.r e3 (.r e4 hT)))) hk
  rcases xA8 hp with hp | ⟨op,r1,hname,hp⟩
  ·refine go4 (.l (pt5 f5 (xU1 hP hA2 hS d1 l1 hp))) fun b hb hr => List.getElem?_set_ne (Ne.symm hr)
  obtain ⟨c2,q2,hr2,hc2,hpop,hr1⟩ := xIa hname
  rw [← d1] at hr2 hpop hr1
  obtain ⟨ho1,ho10,hins⟩ := xOk hpop
  rw [hr2] at hpop
  have hn71 := xMu hA2 hS hr2 hc2 hpop
  obtain ⟨F6,e5,f6⟩ := st5 f5 hA2 hn71
  rw [List.set_set] at e5
  rw [← hr2] at e5
  rw [List.length_set] at f6
  generalize hat2 : at1 + (xA0 (S.drop at1)).length = at2 at *
  have l2 : at2 ≤ S.length := by
   have h1 := congrArg List.length (xIb (S.drop at1))
   rw [List.length_append,List.length_drop] at h1
   have h2 : (xA0 (S.drop at1)).length ≤ S.length - at1 := by omega
   omega
  have d2 : S.drop at2 = r1 := by rw [hr1,List.drop_drop,hat2]
  have hpw : 1 ≤ (xA0 (S.drop at1)).length := by
   have h3 := xWI (show pop (xA0 (c2 :: q2)) (c == 40) = some op from hpop)
   rw [hr2,← h3]
   exact xX4 ho1 ho10
  have hrl : r1.length ≤ k - 1 ∧ 1 ≤ k := by
   have h1 := congrArg List.length d2
   have h3 := congrArg List.length hd
   rw [List.length_drop] at h1 h3
   have h4 : at_ ≤ at1 := by
    have h5 := congrArg List.length d1
    rw [List.length_drop] at h5
    split at h5
    ·simp at h5 h3; omega
    ·omega
   simp at h3 hrk
   omega
  have hx6 : (G.set rb (rdB S at2 lv (many + 1)) ++ [xB op 0 (.sl true 0 []) 0 0 0])[G.length]? = some (xB op 0 (.sl true 0 []) 0 0 0) := by
   rw [List.getElem?_append_right (by simp)]; simp
  obtain ⟨F7,e6,f7⟩ := st6 f6 hx6
  have hl7 : (G.set rb (rdB S at2 lv (many + 1)) ++ [xB op 0 (.sl true 0 []) 0 0 0]).length = G.length + 1 := by simp
  rw [hl7] at f7
  generalize hG7 : G.set rb (rdB S at2 lv (many + 1)) ++ [xB op 0 (.sl true 0 []) 0 0 0] ++ [.cells false false (foC op)] = G7 at *
  have k7 : Kt G.length rb G G7 := by
   rw [← hG7]
   exact (Kt.set.trans (Kp.appB _ _ (by simp)).kt).trans (Kp.appB _ _ (by simp)).kt
  have X7 : XS G lv G7 rb G.length (G.length + 1) S at2 r1 lv (many + 1) op 0 (.sl true 0 []) 0 0 0 := by
   refine ⟨?_,d2,l2,?_,?_,Kt.keep lv k7,Nat.le_refl _,by omega,by omega,by omega,by omega⟩
   ·unfold RD
    rw [← hG7,List.getElem?_append_left (by simp; omega),List.getElem?_append_left (by simp; omega),List.getElem?_set_self lo]
   ·rw [← hG7,List.getElem?_append_left (by simp)]; exact hx6
   ·rw [← hG7,List.getElem?_append_right (by simp)]; simp
  have go6 : ∀ {G'},TRx tl7 F7 G7 (wv (S.length - rr.length) e) G' → (∀ b,X b → b ≠ rb → G'[b]? = G[b]?) → ∃ G',Thr PP 41 [.ptr rb 0] G 82 (wv (S.length - rr.length) e) G' ∧ ∀ b,X b → b ≠ rb → G'[b]? = G[b]? := fun hT hk => go4 (.r e5 (.r e6 hT)) hk
  have kx : ∀ {G1 G2 : Heap},Keep G lv rb G1 → Kt G.length rb G1 G2 → ∀ b,X b → b ≠ rb → G2[b]? = G[b]? := fun hk h2 => yDH hPL hXb hk h2
  rcases xA8 hp with hp | ⟨nm,r2,hnm,hp⟩
  ·by_cases c2 : op = 2
   ·rw [if_pos c2] at hp
    obtain ⟨G',ht,hk'⟩ := xNN hP X7.rd hS X7.dr X7.al hp
    exact go6 (.l (pt7 c2 f7 X7.ho ht)) (kx X7.kp (hk'.low X7.kp.1))
   ·rw [if_neg c2] at hp; cases hp
  obtain ⟨F8,G8,at8,e7,f8,X8,k8⟩ := g7 hS f7 X7 hnm
  rcases xA8 hp with hp | ⟨x,r3,hx,hp⟩
  ·by_cases c2 : op = 7
   ·rw [if_pos c2] at hp
    have hp' : xIj vrsB r2 = .bad rr e := by
     rcases xA8 hp with hp | ⟨v,q,_,h4⟩
     ·exact hp
     ·cases h4
    obtain ⟨G',ht,hk'⟩ := xNN hP X8.rd hS X8.dr X8.al hp'
    exact go6 (.r e7 (.l (pt8 c2 f8 X8.ho ht))) (kx X8.kp (hk'.low X8.kp.1))
   ·rw [if_neg c2] at hp; cases hp
  obtain ⟨F9,G9,at9,e8,f9,X9,k9⟩ := g8 hS f8 X8 hx
  have go8 : ∀ {G'},TRx tl9 F9 G9 (wv (S.length - rr.length) e) G' → (∀ b,X b → b ≠ rb → G'[b]? = G[b]?) → ∃ G',Thr PP 41 [.ptr rb 0] G 82 (wv (S.length - rr.length) e) G' ∧ ∀ b,X b → b ≠ rb → G'[b]? = G[b]? := fun hT hk => go6 (.r e7 (.r e8 hT)) hk
  rcases xA8 hp with hp | ⟨us,r4,has,hp⟩
  ·obtain ⟨G',F',hT,hk'⟩ := xU2 (s3 := .bool (c == 40)) (B := G.length) hP hS X9.n1 X9.n2 X9.n3 X9.b1 X9.b2 (fhi op) G9 F9 at9 (.sl true 0 []) [] r3 (cl9 f9) X9.rd X9.dr X9.al (by simp) (by simpa using hp) X9.hx X9.ho (.inl ⟨rfl,rfl⟩)
   exact go8 (.l ⟨F',.block hT⟩) (kx X9.kp hk')
  obtain ⟨F10,G10,at10,av,e9,f10,X10,k10,hPC⟩ := g9 hS f9 X9 has
  have go9 : ∀ {G'},TRx yDi F10 G10 (wv (S.length - rr.length) e) G' → (∀ b,X b → b ≠ rb → G'[b]? = G[b]?) → ∃ G',Thr PP 41 [.ptr rb 0] G 82 (wv (S.length - rr.length) e) G' ∧ ∀ b,X b → b ≠ rb → G'[b]? = G[b]? := fun hT hk => go8 (.r e9 hT) hk
  have lx := xAp X10.hx
  have lio := xAp X10.ho
  have hM0 := X10.kp.1
  have hs2 : r2.length ≤ r1.length := by
   by_cases c2 : op = 2
   ·rw [if_pos c2] at hnm
    obtain ⟨d,rfl,_,_⟩ := xCN hnm
    simp; omega
   ·rw [if_neg c2] at hnm; cases hnm; exact Nat.le_refl _
  have hs3 : r3.length ≤ r2.length := by
   by_cases c2 : op = 7
   ·rw [if_pos c2] at hx
    obtain ⟨v,q',hx1,hx2⟩ := xAB hx
    cases hx2
    obtain ⟨d,rfl,_,_⟩ := xCN hx1
    simp; omega
   ·rw [if_neg c2] at hx; cases hx; exact Nat.le_refl _
  have hfl : flo op ≤ fhi op := by
   unfold flo fhi
   by_cases c3 : op = 3
   ·rw [if_pos c3,if_pos (.inr c3)]; exact Nat.le_refl _
   ·rw [if_neg c3]; omega
  have hs4 : r4.length ≤ r3.length := by
   have := congrArg List.length (xHJ _ _ _ _ _ hfl has).1
   rw [List.length_append] at this; omega
  generalize hM : G10.length = M at *
  generalize hY : (fun b => X b ∨ (G.length ≤ b ∧ b < M)) = Y at *
  have hYX : ∀ b,X b → Y b := fun b q => by rw [← hY]; exact .inl q
  have hYM : ∀ b,G.length ≤ b → b < M → Y b := fun b q1 q2 => by rw [← hY]; exact .inr ⟨q1,q2⟩
  have hYb : ∀ b,Y b → b < M := fun b q => by
   rw [← hY] at q
   rcases q with q | q
   ·have := hXb b q; omega
   ·exact q.2
  have hPL10 : PL G10 Y lv l := by
   refine PL.kt (X := Y) (rb := rb) ?_ (hYX rb hXr) (((k7.trans k8).trans k9).trans k10)
   refine hPL.mono fun b hb hn => ?_
   rw [← hY]
   rintro (q | q)
   ·exact hn q
   ·omega
  rcases xA8 hp with hp | ⟨p,r5,hA,hp⟩
  ·by_cases c1 : 1 ≤ chn op
   ·rw [if_pos c1] at hp
    rcases xA8 hp with hp | ⟨w,q,hp1,hp2⟩
    ·exact go9 (.l (yCV c1 f10 X10.ho (xGI hP X10.rd hS X10.dr X10.al hp))) (kx X10.kp (.refl _ _ _))
    ·have hr := xBx hp1
     obtain ⟨b1,b2,b3⟩ := xAX (X10.dr.trans hr)
     have hn : L1.icall (.func 73 []) [.ptr rb 0,.str ⟨#[32]⟩] G10 = some (.tup [],G10.set rb (rdB S (at10 + 1) lv (many + 1))) := xCD (cs := [32]) X10.rd hS b1 (by decide)
     have hX1 := X10.on b2 b3
     obtain ⟨G',ht,hk'⟩ := ih (many + 1) l q rr e _ (at10 + 1) lv Y hX1.rd b2 b3 (hPL10.kt (hYX rb hXr) Kt.set) (hYX rb hXr) (fun b hb => by rw [List.length_set]; have := hYb b hb; omega) (by omega) (by omega) hp2 (by rw [hr] at hs4; simp at hs4; omega)
     refine go9 (.l (yCW c1 f10 X10.ho hn ht)) fun b hb hr' => ?_
     rw [hk' b (hYX b hb) hr',List.getElem?_set_ne (Ne.symm hr')]
     exact X10.kp.2 b (hXb b hb) hr' (hPL.nb hb)
   ·rw [if_neg c1] at hp; cases hp
  have hps : r5.length ≤ r4.length ∧ l.length ≤ p.2.length ∧ p.2.length + (many + 1) = p.1 + l.length := by
   by_cases c1 : 1 ≤ chn op
   ·rw [if_pos c1] at hA
    obtain ⟨w,q,hp1,hp2⟩ := xAB hA
    have hr := xBx hp1
    obtain ⟨t,_,t2,t3,t4⟩ := xFj _ _ _ _ p.1 p.2 _ hp2
    rw [hr,t2,t3,t4,List.length_append,t.nd_len]
    simp; omega
   ·rw [if_neg c1] at hA; cases hA; simp; omega
  obtain ⟨F11,G11,at11,lv11,e10,f11,X11,hPL11,hPC11,hlm11,hm11,hll11,hnb11,hlen11,hM11⟩ : ∃ F11 G11 at11 lv11,run L1 xPS ⟨F10,G10⟩ = some (.normal,⟨F11,G11⟩) ∧ Fr F11 rb (c == 40) G.length (G.length + 1) ∧ XS G lv G11 rb G.length (G.length + 1) S at11 r5 lv11 p.1 op nm av x (if 1 ≤ chn op then (p.2.length : Int) - 1 else 0) 0 ∧ PL G11 Y lv11 p.2 ∧ PC G.length M G11 rb G.length (G.length + 1) us av ∧ p.2.length + (many + 1) ≤ p.1 + l.length ∧ p.1 ≤ 64 ∧ l.length ≤ p.2.length ∧ (∀ b,b < G.length → nb lv b → nb lv11 b) ∧ (1 ≤ chn op → 0 < p.2.length) ∧ M ≤ G11.length := by
   by_cases c1 : 1 ≤ chn op
   ·rw [if_pos c1] at hA
    obtain ⟨G2,at',ol,z1,z2,z3,z4,z5,z6,z7,z8,z9,z10⟩ := xVM (X := Y) (M := M) hS (xFp hS k) X10 hPL10 hYb hYM (by omega) (hYX rb hXr) (by omega) (by omega) (by omega) (by omega) hPC (fun _ _ q => q) (m' := p.1) (l' := p.2) hA
    obtain ⟨F',e,f⟩ := yAC f10 c1 X10.rd hS z1 z2 z3.hx z3.ho X10.hx X10.ho
    have hpos : (p.2.length : Int) - 1 = ((p.2.length - 1 : Nat) : Int) := by omega
    rw [if_pos c1,hpos]
    exact ⟨F',_,at',_,e,f,z3.setx,z4.setx (hYM _ (Nat.le_refl _) (by omega)),z9.setx,z5,z6,by omega,fun b hb _ o m h => by cases h; omega,fun _ => by omega,by simpa using z10⟩
   ·rw [if_neg c1] at hA
    cases hA
    obtain ⟨F',e,f⟩ := yAD f10 c1 X10.hx X10.ho
    rw [if_neg c1]
    exact ⟨F',_,at10,lv,e,f,X10,hPL10,hPC,by simp; omega,by simp; omega,Nat.le_refl _,fun _ _ q => q,fun q => absurd q c1,by omega⟩
  have go10 : ∀ {G'},TRx yDh F11 G11 (wv (S.length - rr.length) e) G' → (∀ b,X b → b ≠ rb → G'[b]? = G[b]?) → ∃ G',Thr PP 41 [.ptr rb 0] G 82 (wv (S.length - rr.length) e) G' ∧ ∀ b,X b → b ≠ rb → G'[b]? = G[b]? := fun hT hk => go9 (.r e10 hT) hk
  generalize hpa : (if 1 ≤ chn op then (p.2.length : Int) - 1 else 0) = pa at *
  rcases xA8 hp with hp | ⟨q,r6,hB,hp⟩
  ·by_cases c1 : chn op = 2
   ·rw [if_pos c1] at hp
    rcases xA8 hp with hp | ⟨w,q,hp1,hp2⟩
    ·exact go10 (.l (yCX c1 f11 X11.ho (xGI hP X11.rd hS X11.dr X11.al hp))) (kx X11.kp (.refl _ _ _))
    ·have hr := xBx hp1
     obtain ⟨b1,b2,b3⟩ := xAX (X11.dr.trans hr)
     have hn : L1.icall (.func 73 []) [.ptr rb 0,.str ⟨#[32]⟩] G11 = some (.tup [],G11.set rb (rdB S (at11 + 1) lv11 p.1)) := xCD (cs := [32]) X11.rd hS b1 (by decide)
     have hX1 := X11.on b2 b3
     obtain ⟨G',ht,hk'⟩ := ih p.1 p.2 q rr e _ (at11 + 1) lv11 Y hX1.rd b2 b3 (hPL11.kt (hYX rb hXr) Kt.set) (hYX rb hXr) (fun b hb => by rw [List.length_set]; have := hYb b hb; omega) (by omega) hm11 hp2 (by have := hps.1; rw [hr] at this; simp at this; omega)
     refine go10 (.l (yCY c1 f11 X11.ho hn ht)) fun b hb hr' => ?_
     rw [hk' b (hYX b hb) hr',List.getElem?_set_ne (Ne.symm hr')]
     exact X11.kp.2 b (hXb b hb) hr' (hPL.nb hb)
   ·rw [if_neg c1] at hp; cases hp
  obtain ⟨F12,G12,at12,lv12,e11,f12,X12⟩ : ∃ F12 G12 at12 lv12,run L1 xPT ⟨F11,G11⟩ = some (.normal,⟨F12,G12⟩) ∧ Fr F12 rb (c == 40) G.length (G.length + 1) ∧ XS G lv G12 rb G.length (G.length + 1) S at12 r6 lv12 q.1 op nm av x pa (if chn op = 2 then (q.2.length : Int) - 1 else 0) := by
   by_cases c1 : chn op = 2
   ·rw [if_pos c1] at hB
    obtain ⟨G2,at',ol,z1,z2,z3,z4,z5,z6,z7,z8,z9,z10⟩ := xVM (X := Y) (M := M) hS (xFp hS k) X11 hPL11 hYb hYM hM11 (hYX rb hXr) (by omega) (by omega) (by omega) hm11 hPC11 hnb11 (m' := q.1) (l' := q.2) hB
    obtain ⟨F',e,f⟩ := yAE f11 c1 X11.rd hS z1 z2 z3.hx z3.ho X11.hx X11.ho
    have hpos : (q.2.length : Int) - 1 = ((q.2.length - 1 : Nat) : Int) := by omega
    rw [if_pos c1,hpos]
    exact ⟨F',_,at',_,e,f,z3.setx⟩
   ·rw [if_neg c1] at hB
    cases hB
    obtain ⟨F',e,f⟩ := yAF f11 c1 X11.hx X11.ho
    rw [if_neg c1]
    exact ⟨F',_,at11,lv11,e,f,X11⟩
  rcases xA8 hp with hp | ⟨u,r7,hI,hp⟩
  ·by_cases c4 : c = 40
   ·rw [if_pos c4] at hp
    have hi : (c == 40) = true := by rw [c4]; rfl
    exact go10 (.r e11 (.l (yEK hi f12 (xGI hP X12.rd hS X12.dr X12.al hp)))) (kx X12.kp (.refl _ _ _))
   ·rw [if_neg c4] at hp; cases hp
  ·cases hp
end Go.Abs.Events
/- Parse,where it panics. -/
namespace Go.Abs.Events
open Go Go.Abs Go.Proofs
set_option linter.unusedSimpArgs false
set_option linter.unusedVariables false
set_option maxRecDepth 100000
noncomputable def R0 : Rec := ⟨L1.pcall,fun _ _ _ => none,L1.loop⟩
theorem yBC (hP : P1) : RecOk (xAn PP) PP R0 ∧ LoopOk PP R0 := by
 refine ⟨⟨hP.1.enters,hP.1.pcall,?_,?_,?_,?_⟩,⟨hP.2.1.1⟩⟩
 ·intro f caps args H r H' h; cases h
 ·intro f caps args H r H' h; cases h
 ·intro l args H r H' h; cases h
 ·intro f args H r H' h; cases h
abbrev GR (S : List UInt8) : Heap := H12 ++ [rdB S 0 (.sl true 0 []) 0]
theorem xZB (S : List UInt8) : xAx R0 pA2 ⟨F12 S (.tup []) (.tup []) (.tup []),H12⟩ = some ⟨F12 S (zS S) (.int .i64 (S.length : Nat)) (.bool (decide (4096 < (S.length : Int)))),H12⟩ := by
 have hsz : (⟨S.toArray⟩ : ByteArray).size = S.length := by simp [ByteArray.size]
 unfold pA2
 simp only [F12,List.replicate]
 simp (disch := omega) only [WB,WA,hsz]
section
variable {S : List UInt8} {G' : Heap} {v : AV} {a e : Int}
theorem xXw (b : Bool) : run R0 pR ⟨(F12 S (zS S) (.int .i64 (S.length : Nat)) (.bool b)).set 10 .any,H12⟩ = none := rfl
theorem xZC (b : Bool) : xBD R0 (one 41 [.ptr 3 0] (GR S) (82,v,G')) 10000 tR ⟨(F12 S (zS S) (.int .i64 (S.length : Nat)) (.bool b)).set 10 .any,H12⟩ = some (82,v,⟨FZ S b (.ptr 3 0) (.tup []) (.tup []),G'⟩) := by
 have h1 : run R0 pR1 ⟨(F12 S (zS S) (.int .i64 (S.length : Nat)) (.bool b)).set 10 .any,H12⟩ = some (.normal,⟨FZ S b (.tup []) (.tup []) (.tup []),GR S⟩) := rfl
 have h2 : xAx R0 [⟨some 14,.mov (.t 5),none⟩] ⟨FZ S b (.tup []) (.tup []) (.tup []),GR S⟩ = some ⟨FZ S b (.ptr 3 0) (.tup []) (.tup []),GR S⟩ := rfl
 have h3 := xK4 41 [.ptr 3 0] (GR S) (82,v,G')
 have hs : ∀ (n : Nat) (x : ACode) (c : TCode) (s s1 : St),run R0 x s = some (.normal,s1) → xBD R0 (one 41 [.ptr 3 0] (GR S) (82,v,G')) (n + 2) (.seq x .no c) s = xBD R0 (one 41 [.ptr 3 0] (GR S) (82,v,G')) (n + 1) c s1 := by
  intro n x c s s1 h
  rw [xBD]
  show (match (none : Option (Nat × AV × St)) with | some v => some v | none => _) = _
  simp only [h]
 unfold tR
 rw [show (10000 : Nat) = 9998 + 2 from rfl,hs 9998 _ _ _ _ h1,show (9998 + 1 : Nat) = 9998 + 1 from rfl]
 rw [xBD]
 have h4 : xBD R0 (one 41 [.ptr 3 0] (GR S) (82,v,G')) 9998 (.call [⟨some 14,.mov (.t 5),none⟩] 41 [.t 14]) ⟨FZ S b (.tup []) (.tup []) (.tup []),GR S⟩ = some (82,v,⟨FZ S b (.ptr 3 0) (.tup []) (.tup []),G'⟩) := by
  rw [show (9998 : Nat) = 9997 + 1 from rfl,xBD,h2]
  show (one 41 [.ptr 3 0] (GR S) (82,v,G') 41 [.ptr 3 0] (GR S)).map _ = _
  rw [h3]
  rfl
 simp only [h4]
set_option maxHeartbeats 4000000 in
theorem xRE (g0 : G'[0]? = some (.cells false false [.sl true 0 []])) (g1 : G'[1]? = some (.cells false false [.int .i64 0])) (g2 : G'[2]? = some (.cells false false [.int .i64 0])) :
  ∃ F4,run R0 xJW ⟨xM1 (.ptr 0 0) (.ptr 1 0) (.ptr 2 0) G',G' ++ [.cells false false [.int .i64 a,.int .i64 e]]⟩ = some (.normal,⟨F4,List.set (List.set (G'.set 0 (.cells false false [.sl true 0 []])) 1 (.cells false false [.int .i64 a])) 2 (.cells false false [.int .i64 e]) ++ [.cells false false [.int .i64 a,.int .i64 e]]⟩) ∧ True := by
 have l0 := xAp g0
 have l1 := xAp g1
 have l2 := xAp g2
 have hb0 : (List.length G' != 0) = true := bne_iff_ne.2 (by omega)
 unfold xJW xM1
 apply xB2
 ·simp (maxSteps := 30000000) (disch := first|exact D5|fail) only [WB,xBT,xAh,AV.cells,↓reduceIte,xA1,g0,xEm,xBB,g1,g2,xUy,hb0,Nat.reduceLeDiff,Nat.reduceAdd]
  rfl
 ·trivial
theorem xRF (hP : P1) (hS : S.length ≤ 4096) {rr : List UInt8} {e : Nat} (hp : xCh (S.length + 1) 0 [] S = .bad rr e) : ∃ G',Thr PP 41 [.ptr 3 0] (GR S) 82 (wv (S.length - rr.length) e) G' ∧
  ∃ r H',xBA R0 (one 41 [.ptr 3 0] (GR S) (82,wv (S.length - rr.length) e,G')) [zS S] [] = some (r,H') ∧ frz frzN H' r = some (.tup [.sl true 0 [],.int .i64 (S.length - rr.length : Nat),.int .i64 (e : Nat)]) := by
 have hRD : RD (GR S) 3 S 0 (.sl true 0 []) 0 := rfl
 obtain ⟨G',ht,hk⟩ := xXv (rb := 3) hP hS (S.length + 1) 0 [] S rr e (GR S) 0 (.sl true 0 []) (fun b => b < 4) hRD rfl (Nat.zero_le _) ⟨[],rfl,fun p hp => (by cases hp),.inl ⟨rfl,rfl⟩⟩ (by decide) (fun b hb => hb) (Nat.le_refl _) (by omega) hp (by omega)
 refine ⟨G',ht,?_⟩
 have g0 : G'[0]? = some (.cells false false [.sl true 0 []]) := (hk 0 (by decide) (by decide)).trans rfl
 have g1 : G'[1]? = some (.cells false false [.int .i64 0]) := (hk 1 (by decide) (by decide)).trans rfl
 have g2 : G'[2]? = some (.cells false false [.int .i64 0]) := (hk 2 (by decide) (by decide)).trans rfl
 have hlt : decide ((4096 : Int) < (S.length : Nat)) = false := by simp; omega
 have h2 := xZB S
 rw [hlt] at h2
 obtain ⟨F4,h4,-⟩ := xRE (a := (S.length - rr.length : Nat)) (e := (e : Nat)) g0 g1 g2
 have hl : 2 < List.length G' := xAp g2
 have n0 : (List.set (List.set (G'.set 0 (.cells false false [.sl true 0 []])) 1 (.cells false false [.int .i64 (S.length - rr.length : Nat)])) 2 (.cells false false [.int .i64 (e : Nat)]) ++ [.cells false false [.int .i64 (S.length - rr.length : Nat),.int .i64 (e : Nat)]])[0]? = some (.cells false false [.sl true 0 []]) := by
  rw [List.getElem?_append_left (by simp; omega),List.getElem?_set_ne (by decide),List.getElem?_set_ne (by decide),List.getElem?_set_self (by omega)]
 have n1 : (List.set (List.set (G'.set 0 (.cells false false [.sl true 0 []])) 1 (.cells false false [.int .i64 (S.length - rr.length : Nat)])) 2 (.cells false false [.int .i64 (e : Nat)]) ++ [.cells false false [.int .i64 (S.length - rr.length : Nat),.int .i64 (e : Nat)]])[1]? = some (.cells false false [.int .i64 (S.length - rr.length : Nat)]) := by
  rw [List.getElem?_append_left (by simp; omega),List.getElem?_set_ne (by decide),List.getElem?_set_self (by simp; omega)]
 have n2 : (List.set (List.set (G'.set 0 (.cells false false [.sl true 0 []])) 1 (.cells false false [.int .i64 (S.length - rr.length : Nat)])) 2 (.cells false false [.int .i64 (e : Nat)]) ++ [.cells false false [.int .i64 (S.length - rr.length : Nat),.int .i64 (e : Nat)]])[2]? = some (.cells false false [.int .i64 (e : Nat)]) := by
  rw [List.getElem?_append_left (by simp; omega),List.getElem?_set_self (by simp; omega)]
 have hFR : FR (FZ S false (.ptr 3 0) (.tup []) (.tup [])) := ⟨rfl,rfl,rfl⟩
 generalize List.set (List.set (G'.set 0 (.cells false false [.sl true 0 []])) 1 (.cells false false [.int .i64 (S.length - rr.length : Nat)])) 2 (.cells false false [.int .i64 (e : Nat)]) ++ [.cells false false [.int .i64 (S.length - rr.length : Nat),.int .i64 (e : Nat)]] = H4 at *
 refine ⟨.tup [.sl true 0 [],.int .i64 (S.length - rr.length : Nat),.int .i64 (e : Nat)],H4,?_,rfl⟩
 ·unfold xBA
  rw [xKA]
  dsimp only
  rw [h2]
  show (if 10 < _ then xCe R0 _ _ else none) = _
  rw [if_pos (by simp)]
  unfold xCe
  dsimp only
  rw [xXw,xZC]
  dsimp only
  rw [if_pos rfl]
  show (match run R0 xJW ⟨xM1 (.ptr 0 0) (.ptr 1 0) (.ptr 2 0) G',_⟩ with | some (.normal,s4) => _ | _ => _) = _
  rw [h4]
  dsimp only
  rw [xZR hFR n0 n1 n2]
  rfl
end
end Go.Abs.Events
