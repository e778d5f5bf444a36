/- The reference's parser: its parts against the plain parser,errors and all. -/
import Derived.Test.YtdheandekcpieaaDoorAMU
import Derived.Test.YtdheandekcpieaaDoorAbsBun
import Derived.Test.YtdheandekcpieaaDoorAMG
namespace Go.Abs.Events
open Go Go.Abs
set_option maxHeartbeats 4000000
set_option linter.unusedSimpArgs false
set_option linter.unusedVariables false
def Rel (S : List UInt8) (at_ e : Nat) {α : Type} (p : PR α) (V : α → Prop) : Prop := match p with
 | .ok v r => e = 0 ∧ S.drop at_ = r ∧ V v
 | .bad rr e1 => e = e1 ∧ e ≠ 0 ∧ at_ + rr.length = S.length
theorem Rel.bind {S : List UInt8} {at_ e at' e' : Nat} {α β : Type} {p : PR α} {V : α → Prop} {f : α → List UInt8 → PR β} {W : β → Prop} (h : Rel S at_ e p V) (h1 : e ≠ 0 → e' = e ∧ at' = at_) (h2 : ∀ v,e = 0 → V v → Rel S at' e' (f v (S.drop at_)) W) : Rel S at' e' (p.bind f) W := by
 cases p with
 | ok v r =>
  obtain ⟨a,rfl,c⟩ := h
  exact h2 v a c
 | bad rr e1 =>
  obtain ⟨a,b,c⟩ := h
  obtain ⟨rfl,rfl⟩ := h1 b
  exact ⟨a,b,c⟩
theorem Rel.mono {S : List UInt8} {at_ e : Nat} {α : Type} {p : PR α} {V W : α → Prop} (h : Rel S at_ e p V) (hw : ∀ v,V v → W v) : Rel S at_ e p W := by
 cases p with
 | ok v r => exact ⟨h.1,h.2.1,hw v h.2.2⟩
 | bad rr e1 => exact h
theorem Rel.okm {S : List UInt8} {at_ e : Nat} {α : Type} {v : α} {V : α → Prop} (he : e = 0) (h : V v) : Rel S at_ e (.ok v (S.drop at_)) V := ⟨he,rfl,h⟩
theorem xF6 {S : List UInt8} {at_ e : Nat} {α : Type} {V : α → Prop} (hal : at_ ≤ S.length) (he : e ≠ 0) : Rel S at_ e (.bad (S.drop at_) e : PR α) V := ⟨rfl,he,by rw [List.length_drop]; omega⟩
theorem xT8 {G : Heap} {rb at_ many e : Nat} {S : List UInt8} {lv : AV} (h : RS G rb S at_ lv many e) : G.set rb (rsB S at_ lv many e) = G := by
 obtain ⟨hk,hx⟩ := List.getElem?_eq_some_iff.1 (show G[rb]? = some _ from h)
 show G.set rb (rsB S at_ lv many e) = G
 rw [← hx,List.set_getElem_self]
theorem xC6 {G : Heap} {rb at_ many e : Nat} {S : List UInt8} {lv : AV} (h : RS G rb S at_ lv many e) (at' : Nat) (lv' : AV) (many' e' : Nat) : RS (G.set rb (rsB S at' lv' many' e')) rb S at' lv' many' e' := by
 have lo := xAp (show G[rb]? = some _ from h)
 unfold RS; rw [List.getElem?_set_self lo]
theorem xC7 {S : List UInt8} {at_ : Nat} (h : S.drop at_ = []) (hal : at_ ≤ S.length) : at_ = S.length := by
 have := congrArg List.length h
 rw [List.length_drop,List.length_nil] at this; omega
section
variable {G : Heap} {rb at_ many e : Nat} {S : List UInt8} {lv : AV} {c : UInt8}
theorem xOl (c : UInt8) (h : RS G rb S at_ lv many e) (hS : S.length ≤ 4096) (hal : at_ ≤ S.length) : ∃ at' e',L.icall (.func 81 []) [.ptr rb 0,.int .u8 (c.toNat : Nat)] G = some (.tup [],G.set rb (rsB S at' lv many e')) ∧ at_ ≤ at' ∧ at' ≤ S.length ∧ (e ≠ 0 → e' = e ∧ at' = at_) ∧ (e = 0 → Rel S at' e' (xBV c (S.drop at_)) fun _ => True) := by
 by_cases he : e = 0
 ·subst he
  cases hd : S.drop at_ with
  | nil =>
   have := xC7 hd hal
   exact ⟨at_,3,xQH h (by omega),Nat.le_refl _,hal,fun q => absurd rfl q,fun _ => ⟨rfl,by omega,by simp; omega⟩⟩
  | cons d r =>
   obtain ⟨a1,a2,a3⟩ := xCt hd
   by_cases hdc : d = c
   ·subst hdc
    refine ⟨at_ + 1,0,xFr h hS a1,by omega,a3,fun q => absurd rfl q,fun _ => ?_⟩
    have : xBV d (d :: r) = .ok () r := by simp [xBV,xBU,PR.bind]
    rw [this]
    exact ⟨rfl,a2,trivial⟩
   ·refine ⟨at_,2,xQI h hS a1 hdc,Nat.le_refl _,hal,fun q => absurd rfl q,fun _ => ?_⟩
    have : xBV c (d :: r) = .bad (d :: r) 2 := by simp [xBV,xBU,PR.bind,hdc]
    rw [this,← hd]
    exact xF6 hal (by omega)
 ·exact ⟨at_,e,by rw [xT8 h]; exact xJ2 h he,Nat.le_refl _,hal,fun _ => ⟨rfl,rfl⟩,fun q => absurd q he⟩
theorem xT9 (a b a2 b2 : Nat) (cs : List UInt8) (hcs : ∀ c,inR a b a2 b2 c = cs.contains c) (h : RS G rb S at_ lv many e) (hS : S.length ≤ 4096) (hal : at_ ≤ S.length) :
  ∃ at' e' t,L.icall (.func 77 []) [.ptr rb 0,.int .u8 (a : Nat),.int .u8 (b : Nat),.int .u8 (a2 : Nat),.int .u8 (b2 : Nat)] G = some (.int .i64 (t : Nat),G.set rb (rsB S at' lv many e')) ∧ at_ ≤ at' ∧ at' ≤ S.length ∧ t ≤ 255 ∧ (e' ≠ 0 → t = 0) ∧ (e ≠ 0 → e' = e ∧ at' = at_) ∧
   (e = 0 → Rel S at' e' (xIj cs (S.drop at_)) fun j => ∃ c,cs.contains c = true ∧ t = c.toNat ∧ j = cs.idxOf c) := by
 by_cases he : e = 0
 ·subst he
  obtain ⟨at1,e1,m1,m0,m2,m3,m4⟩ := xOl 32 h hS hal
  have m4 := m4 rfl
  have h1 := xC6 h at1 lv many e1
  by_cases he1 : e1 = 0
  ·subst he1
   have hp : xBV 32 (S.drop at_) = .ok () (S.drop at1) := by
    cases hq : xBV 32 (S.drop at_) with
    | ok v r => rw [hq] at m4; rw [m4.2.1]
    | bad rr e2 => rw [hq] at m4; exact absurd rfl m4.2.1
   have h32 : S[at_]? = some 32 ∧ at1 = at_ + 1 := by
    cases hd : S.drop at_ with
    | nil => rw [hd] at hp; cases hp
    | cons d r =>
     obtain ⟨a1,a2,a3⟩ := xCt hd
     rw [hd] at hp
     by_cases hdc : d = 32
     ·subst hdc
      have : xBV 32 (32 :: r) = .ok () r := by simp [xBV,xBU,PR.bind]
      rw [this] at hp
      injection hp with _ hp
      have := congrArg List.length (hp.symm.trans a2.symm)
      rw [List.length_drop,List.length_drop] at this
      exact ⟨a1,by omega⟩
     ·have : xBV 32 (d :: r) = .bad (d :: r) 2 := by simp [xBV,xBU,PR.bind,hdc]
      rw [this] at hp; cases hp
   obtain ⟨h32,rfl⟩ := h32
   unfold xIj
   rw [hp]
   show ∃ at' e' t,_ ∧ _ ∧ _ ∧ _ ∧ _ ∧ _ ∧ ((0 : Nat) = 0 → Rel S at' e' ((xBU (fun c => cs.contains c) 1 (S.drop (at_ + 1))).bind fun c r => .ok (cs.idxOf c) r.tail) _)
   cases hd : S.drop (at_ + 1) with
   | nil =>
    have := xC7 hd m2
    exact ⟨at_ + 1,3,0,xUj h hS h32 (by omega),by omega,m2,by omega,fun _ => rfl,fun q => absurd rfl q,fun _ => ⟨rfl,by omega,by simp; omega⟩⟩
   | cons d r =>
    obtain ⟨a1,a2,a3⟩ := xCt hd
    cases hb : cs.contains d with
    | true =>
     refine ⟨at_ + 2,0,d.toNat,xV3 h hS h32 a1 ((hcs d).trans hb),by omega,by omega,?_,fun q => absurd rfl q,fun q => absurd rfl q,fun _ => ?_⟩
     ·have := d.toNat_lt; omega
     ·have : ((xBU (fun c => cs.contains c) 1 (d :: r)).bind fun c r => (.ok (cs.idxOf c) r.tail : PR Nat)) = .ok (cs.idxOf d) r := by simp only [xBU,hb,if_true,PR.bind,List.tail_cons]
      rw [this]
      exact ⟨rfl,a2,d,hb,rfl,rfl⟩
    | false =>
     refine ⟨at_ + 1,1,0,xQK h hS h32 a1 ((hcs d).trans hb),by omega,m2,by omega,fun _ => rfl,fun q => absurd rfl q,fun _ => ?_⟩
     have : ((xBU (fun c => cs.contains c) 1 (d :: r)).bind fun c r => (.ok (cs.idxOf c) r.tail : PR Nat)) = .bad (d :: r) 1 := by simp only [xBU,hb,Bool.false_eq_true,if_false,PR.bind]
     rw [this,← hd]
     exact xF6 m2 (by omega)
  ·refine ⟨at1,e1,0,xQJ m1 h1 he1,m0,m2,by omega,fun _ => rfl,fun q => absurd rfl q,fun _ => ?_⟩
   unfold xIj
   exact m4.bind (fun _ => ⟨rfl,rfl⟩) fun v q _ => absurd q he1
 ·exact ⟨at_,e,0,by rw [xT8 h]; exact xUi h he,Nat.le_refl _,hal,by omega,fun _ => rfl,fun _ => ⟨rfl,rfl⟩,fun q => absurd q he⟩
theorem xJ0 {P : UInt8 → Bool} (h : (List.range 256).all fun n => P (UInt8.ofNat n)) (c : UInt8) : P c = true := by
 have := List.all_eq_true.1 h c.toNat (List.mem_range.2 c.toNat_lt)
 rwa [UInt8.ofNat_toNat] at this
theorem yA3 (c : UInt8) : inR 48 55 120 122 c = splB.contains c := by
 have := xJ0 (P := fun c => inR 48 55 120 122 c == splB.contains c) (by decide +kernel) c
 simpa using this
theorem yA4 (c : UInt8) : inR 97 104 97 104 c = nmsB.contains c := by
 have := xJ0 (P := fun c => inR 97 104 97 104 c == nmsB.contains c) (by decide +kernel) c
 simpa using this
theorem yA5 (c : UInt8) : inR 120 122 120 122 c = vrsB.contains c := by
 have := xJ0 (P := fun c => inR 120 122 120 122 c == vrsB.contains c) (by decide +kernel) c
 simpa using this
theorem xY3 (c : UInt8) (h : nmsB.contains c = true) : c.toNat = 97 + nmsB.idxOf c := by
 have := xJ0 (P := fun c => !nmsB.contains c || c.toNat == 97 + nmsB.idxOf c) (by decide +kernel) c
 rw [h] at this; simpa using this
theorem xY4 (c : UInt8) (h : vrsB.contains c = true) : c.toNat = 120 + vrsB.idxOf c := by
 have := xJ0 (P := fun c => !vrsB.contains c || c.toNat == 120 + vrsB.idxOf c) (by decide +kernel) c
 rw [h] at this; simpa using this
theorem xUa (c : UInt8) (h : splB.contains c = true) : (c.toNat < 120 ∧ c.toNat = 48 + splB.idxOf c) ∨ (120 ≤ c.toNat ∧ c.toNat = 112 + splB.idxOf c) := by
 have := xJ0 (P := fun c => !splB.contains c || (decide (c.toNat < 120) && c.toNat == 48 + splB.idxOf c) || (decide (120 ≤ c.toNat) && c.toNat == 112 + splB.idxOf c)) (by decide +kernel) c
 rw [h] at this; simpa using this
theorem xK5 (h : RS G rb S at_ lv many e) (hS : S.length ≤ 4096) (hal : at_ ≤ S.length) :
  ∃ at' e' t,L.icall (.func 78 []) [.ptr rb 0] G = some (.int .i64 t,G.set rb (rsB S at' lv many e')) ∧ at_ ≤ at' ∧ at' ≤ S.length ∧ (e ≠ 0 → e' = e ∧ at' = at_) ∧ (e = 0 → Rel S at' e' (xIj splB (S.drop at_)) fun j => t = (j : Nat)) := by
 obtain ⟨at',e',t,h1,h0,h2,h3,h4,h5,h6⟩ := xT9 48 55 120 122 splB yA3 h hS hal
 by_cases ht : t < 120
 ·refine ⟨at',e',(t : Nat) - 48,xV4 h1 ht,h0,h2,h5,fun q => (h6 q).mono ?_⟩
  rintro j ⟨c,k1,rfl,rfl⟩
  rcases xUa c k1 with ⟨_,k⟩ | ⟨k,_⟩ <;> omega
 ·refine ⟨at',e',(t : Nat) - 112,xV5 h1 (by omega) h3,h0,h2,h5,fun q => (h6 q).mono ?_⟩
  rintro j ⟨c,k1,rfl,rfl⟩
  rcases xUa c k1 with ⟨k,_⟩ | ⟨_,k⟩ <;> omega
end
set_option maxRecDepth 100000
section
variable {G : Heap} {rb ix at_ many e op : Nat} {S : List UInt8} {lv av : AV} {ins : Bool} {nm x a b : Int} {c : UInt8} {k : Int}
theorem xY5 : L.loop xCd xEp ⟨xBy (.ptr rb 0) (.bool ins) (.ptr ix 0) (.int .i64 2),G⟩ = some (.exit 1,⟨xBy (.ptr rb 0) (.bool ins) (.ptr ix 0) (.int .i64 2),G⟩) := by
 rw [xJI]
 simp (disch := omega) only [xGq,WB,↓reduceIte,xHQ]
theorem xUb (h : RS G rb S at_ lv many e) (he : e ≠ 0) (hk : (k < 2) = True) : L.loop xCd xEp ⟨xBy (.ptr rb 0) (.bool ins) (.ptr ix 0) (.int .i64 k),G⟩ = some (.exit 1,⟨xBy (.ptr rb 0) (.bool ins) (.ptr ix 0) (.int .i64 k),G⟩) := by
 have hn := xD7 h he
 rw [xJI]
 simp (disch := omega) only [xGq,WB,hk,↓reduceIte,hn,xHQ]
theorem xNd (h : RS G rb S at_ lv many 0) (hge : S.length ≤ at_) (hk : (k < 2) = True) : L.loop xCd xEp ⟨xBy (.ptr rb 0) (.bool ins) (.ptr ix 0) (.int .i64 k),G⟩ = some (.exit 1,⟨xBy (.ptr rb 0) (.bool ins) (.ptr ix 0) (.int .i64 k),G.set rb (rsB S at_ lv many 3)⟩) := by
 have hn := xD8 h hge
 rw [xJI]
 simp (disch := omega) only [xGq,WB,hk,↓reduceIte,hn,xHQ]
theorem xPZ (h : RS G rb S at_ lv many 0) (hc : S[at_]? = some 41) (hk : (k < 2) = True) : L.loop xCd xEp ⟨xBy (.ptr rb 0) (.bool ins) (.ptr ix 0) (.int .i64 k),G⟩ = some (.exit 1,⟨xBy (.ptr rb 0) (.bool ins) (.ptr ix 0) (.int .i64 k),G⟩) := by
 have hlt : at_ < S.length := (List.getElem?_eq_some_iff.1 hc).1
 have hn := xB5 h hlt
 have hs : ∀ H,xQQ H (zS S) (.int .i64 (at_ : Nat)) = some (.int .u8 41,H) := fun H => xBC H hc
 unfold RS at h
 rw [xJI]
 simp (maxSteps := 30000000) (disch := first|exact D5|fail) only [xGq,WB,hk,↓reduceIte,hn,h,xAK,hs,xHQ]
theorem xW8 {B1 : Blk} (hx : G[ix]? = some (xU op nm av x a b)) (n1 : rb ≠ ix) (hav : xIz 4 av av = true) : xBR G (List.set G rb B1) (.ptr ix 2) 1 = true := by
 have e : (List.set G rb B1)[ix]? = G[ix]? := List.getElem?_set_ne n1
 have e2 : rd (List.set G rb B1) (.ptr ix 2) 1 = rd G (.ptr ix 2) 1 := by simp only [rd,e]
 have e3 : rd G (.ptr ix 2) 1 = some [av] := by simp [rd,hx]
 unfold xBR
 rw [e2,e3]; simp [hav]
theorem xUc {B1 : Blk} {t : Int} (h : RS G rb S at_ lv many 0) (hc : S[at_]? = some c) (h41 : c ≠ 41) (hx : G[ix]? = some (xU op nm (.sl true 0 []) x a b)) (n1 : rb ≠ ix) (hT : L.icall (.func 78 []) [.ptr rb 0] G = some (.int .i64 t,List.set G rb B1)) :
  L.loop xCd xEp ⟨xBy (.ptr rb 0) (.bool ins) (.ptr ix 0) (.int .i64 0),G⟩ = L.loop xCd xEp ⟨xBy (.ptr rb 0) (.bool ins) (.ptr ix 0) (.int .i64 1),List.set (List.set G rb B1) ix (xU op nm (.own false G.length 0 1 1) x a b) ++ [.cells false false [.int .i64 t]]⟩ := by
 have hlt : at_ < S.length := (List.getElem?_eq_some_iff.1 hc).1
 have hn := xB5 h hlt
 have hs := fun H => xBC H hc
 have hne : (((c.toNat : Nat) : Int) = 41) = False := by
  simp only [eq_iff_iff,iff_false]
  intro e
  apply h41
  have : c.toNat = 41 := by omega
  exact UInt8.toNat_inj.1 this
 have hrd := xW8 (B1 := B1) hx n1 (by simp [xIz])
 have lx := xAp hx
 have lo := xAp (show G[rb]? = some _ from h)
 unfold RS at h
 conv => lhs; rw [xJI]
 generalize hR : L.loop xCd xEp ⟨xBy (.ptr rb 0) (.bool ins) (.ptr ix 0) (.int .i64 1),List.set (List.set G rb B1) ix (xU op nm (.own false G.length 0 1 1) x a b) ++ [.cells false false [.int .i64 t]]⟩ = RR
 simp (maxSteps := 30000000) (disch := first|exact D5|fail) only [xGq,WB,Int.reduceLT,↓reduceIte,hn,h,xAK,hs,hne,WH,WP,hx,Nat.reduceSub,hT,hrd,AV.cells,AV.isCell,Nat.reduceBEq,xA1,xBB,Nat.reduceAdd,xEm,xHQ,hR]
theorem xUd {B1 : Blk} {t t0 : Int} {ka : Nat} (h : RS G rb S at_ lv many 0) (hc : S[at_]? = some c) (h41 : c ≠ 41) (hx : G[ix]? = some (xU op nm (.own false ka 0 1 1) x a b)) (n1 : rb ≠ ix) (ga : G[ka]? = some (.cells false false [.int .i64 t0])) (hk1 : ka ≠ rb) (hk2 : ka ≠ ix) (hT : L.icall (.func 78 []) [.ptr rb 0] G = some (.int .i64 t,List.set G rb B1)) :
  L.loop xCd xEp ⟨xBy (.ptr rb 0) (.bool ins) (.ptr ix 0) (.int .i64 1),G⟩ = L.loop xCd xEp ⟨xBy (.ptr rb 0) (.bool ins) (.ptr ix 0) (.int .i64 2),List.set (List.set (List.set G rb B1) ka Blk.dead) ix (xU op nm (.own false G.length 0 2 1) x a b) ++ [.cells false false [.int .i64 t0,.int .i64 t]]⟩ := by
 have hlt : at_ < S.length := (List.getElem?_eq_some_iff.1 hc).1
 have hn := xB5 h hlt
 have hs := fun H => xBC H hc
 have hne : (((c.toNat : Nat) : Int) = 41) = False := by
  simp only [eq_iff_iff,iff_false]
  intro e
  apply h41
  have : c.toNat = 41 := by omega
  exact UInt8.toNat_inj.1 this
 have hrd := xW8 (B1 := B1) hx n1 (by simp [xIz])
 have lx := xAp hx
 have lk := xAp ga
 have lo := xAp (show G[rb]? = some _ from h)
 unfold RS at h
 conv => lhs; rw [xJI]
 generalize hR : L.loop xCd xEp ⟨xBy (.ptr rb 0) (.bool ins) (.ptr ix 0) (.int .i64 2),List.set (List.set (List.set G rb B1) ka Blk.dead) ix (xU op nm (.own false G.length 0 2 1) x a b) ++ [.cells false false [.int .i64 t0,.int .i64 t]]⟩ = RR
 simp (maxSteps := 30000000) (disch := first|exact D5|fail) only [xGq,WB,Int.reduceLT,↓reduceIte,hn,h,xAK,hs,hne,WH,WP,hx,Nat.reduceSub,hT,hrd,AV.cells,AV.isCell,xBB,ga,Nat.reduceBEq,Nat.reduceAdd,xA1,xEm,Int.reduceAdd,xHQ,hR]
theorem xUe {G1 G2 : Heap} {at' m' e' n : Nat} (hm : L.icall (.func 81 []) [.ptr rb 0,.int .u8 32] G = some (.tup [],G1)) (hf : L.icall (.func 43 []) [.ptr rb 0] G1 = some (.tup [],G2)) (h2 : RS G2 rb S at' lv m' e') (hlv : (n = 0 ∧ lv = .sl true 0 []) ∨ ∃ ol,lv = .own false ol 0 n 6) (hn : n ≤ 1000) : L.icall (.func 80 []) [.ptr rb 0] G = some (.int .i64 ((n : Nat) - 1),G2) := by
 have hw : IntKind.i64.wrap (((n : Nat) : Int) - 1) = (n : Nat) - 1 := xRH (by omega) (by omega)
 unfold RS at h2
 rw [yEO,a80,xAj]
 rcases hlv with ⟨rfl,rfl⟩ | ⟨ol,rfl⟩
 ·simp (maxSteps := 30000000) (disch := first|exact D5|fail) only [WB,Nat.reduceSub,hm,hf,h2,Int.reduceSub,Int.reduceNeg]
 ·simp (maxSteps := 30000000) (disch := first|exact D5|fail) only [WB,Nat.reduceSub,hm,hf,h2,hw]
theorem xUf {v w y z l : AV} (h : G[rb]? = some (.cells false false [v,w,l,y,z])) (hx : xIz 4 l l = true) (B : Blk) : xBR G (G ++ [B]) (.ptr rb 2) 1 = true := by
 have lo := xAp h
 have e : (G ++ [B])[rb]? = G[rb]? := List.getElem?_append_left lo
 have e2 : rd (G ++ [B]) (.ptr rb 2) 1 = rd G (.ptr rb 2) 1 := by simp only [rd,e]
 have e3 : rd G (.ptr rb 2) 1 = some [l] := by simp [rd,h]
 unfold xBR
 rw [e2,e3]; simp [hx]
end
section
variable {F : List AV} {G : Heap} {rb ix at_ many e op : Nat} {S : List UInt8} {lv av : AV} {ins : Bool} {nm x a b : Int}
def AvU (us : List Int) (av : AV) : Prop := av = .sl true 0 [] ∨ (∃ k,av = .own false k 0 us.length 1) ∨ av = .sl false us.length (xAG us)
theorem yEM {us : List Int} (hF : Fu F rb ins ix) (h : RS G rb S at_ (.sl true 0 []) many e) (hx : G[ix]? = some (xU op nm av x a b)) (n1 : rb ≠ ix) (hav : AvU us av) :
  ∃ F',run L xUB ⟨F,G⟩ = some (.normal,⟨F',G.set rb (rsB S at_ (.own false (G.length + 1) 0 1 6) many e) ++ [.cells false false [.int .u8 (op : Nat),.int .i64 nm,av,.int .i64 x,.int .i64 a,.int .i64 b],.cells false false [.int .u8 (op : Nat),.int .i64 nm,av,.int .i64 x,.int .i64 a,.int .i64 b]]⟩) ∧ True := by
 obtain ⟨hl,h0,h2,h3⟩ := hF
 unfold RS at h
 have lo := xAp h
 have lx := xAp hx
 have hrd := xUf h (by simp [xIz])
 rw [xBg hl,h0,h2,h3]
 rcases hav with rfl | ⟨k,rfl⟩ | rfl
 ·apply exu
  ·simp (maxSteps := 30000000) (disch := first|exact D5|fail) only [xUB,sqY,a43,WH,WB,WP,↓reduceIte,h,hx,Nat.reduceSub,AV.cells,Nat.reduceAdd,Nat.reduceMul,AV.isCell,hrd,xBT,Nat.reduceBEq,xA1,xEm]
   rfl
  ·trivial
 ·apply exu
  ·simp (maxSteps := 30000000) (disch := first|exact D5|fail) only [xUB,sqY,a43,WH,WB,WP,↓reduceIte,h,hx,Nat.reduceSub,AV.cells,Nat.reduceAdd,Nat.reduceMul,AV.isCell,hrd,xBT,Nat.reduceBEq,xA1,xEm]
   rfl
  ·trivial
 ·generalize xAG us = LN at *
  apply exu
  ·simp (maxSteps := 30000000) (disch := first|exact D5|fail) only [xUB,sqY,a43,WH,WB,WP,↓reduceIte,h,hx,Nat.reduceSub,AV.cells,Nat.reduceAdd,Nat.reduceMul,AV.isCell,hrd,xBT,Nat.reduceBEq,xA1,xEm]
   rfl
  ·trivial
theorem yEN {us : List Int} {ol n : Nat} {C : List AV} (hF : Fu F rb ins ix) (h : RS G rb S at_ (.own false ol 0 n 6) many e) (hx : G[ix]? = some (xU op nm av x a b)) (n1 : rb ≠ ix) (n2 : ol ≠ ix) (n3 : ol ≠ rb) (ho : G[ol]? = some (.cells false false C)) (hC : C.length = n * 6) (hn : n ≤ 1000) (hav : AvU us av) :
  ∃ F',run L xUB ⟨F,G⟩ = some (.normal,⟨F',List.set (G.set ol .dead) rb (rsB S at_ (.own false (G.length + 1) 0 (n + 1) 6) many e) ++ [.cells false false [.int .u8 (op : Nat),.int .i64 nm,av,.int .i64 x,.int .i64 a,.int .i64 b],.cells false false (C ++ [.int .u8 (op : Nat),.int .i64 nm,av,.int .i64 x,.int .i64 a,.int .i64 b])]⟩) ∧ True := by
 obtain ⟨hl,h0,h2,h3⟩ := hF
 unfold RS at h
 have lo := xAp h
 have lx := xAp hx
 have ll := xAp ho
 have hrd := xUf h (by simp [xIz])
 have htk : List.take (n * 6) C = C := List.take_of_length_le (by omega)
 have hle : n * 6 ≤ C.length := by omega
 rw [xBg hl,h0,h2,h3]
 rcases hav with rfl | ⟨k,rfl⟩ | rfl
 ·apply exu
  ·simp (maxSteps := 30000000) (disch := first|exact D5|fail) only [xUB,sqY,a43,WH,WB,WP,↓reduceIte,h,hx,Nat.reduceSub,AV.cells,Nat.reduceAdd,Nat.reduceMul,AV.isCell,hrd,xBT,xA1,ho,Nat.reduceBEq,xEm,htk,xBB]
   rfl
  ·trivial
 ·apply exu
  ·simp (maxSteps := 30000000) (disch := first|exact D5|fail) only [xUB,sqY,a43,WH,WB,WP,↓reduceIte,h,hx,Nat.reduceSub,AV.cells,Nat.reduceAdd,Nat.reduceMul,AV.isCell,hrd,xBT,xA1,ho,Nat.reduceBEq,xEm,htk,xBB]
   rfl
  ·trivial
 ·generalize xAG us = LN at *
  apply exu
  ·simp (maxSteps := 30000000) (disch := first|exact D5|fail) only [xUB,sqY,a43,WH,WB,WP,↓reduceIte,h,hx,Nat.reduceSub,AV.cells,Nat.reduceAdd,Nat.reduceMul,AV.isCell,hrd,xBT,xA1,ho,Nat.reduceBEq,xEm,htk,xBB]
   rfl
  ·trivial
end
def nbU (lv : AV) (b : Nat) : Prop := ∀ o m,lv = .own false o 0 m 6 → b ≠ o
def KeepU (G0 : Heap) (lv : AV) (rb : Nat) (G : Heap) : Prop := G0.length ≤ G.length ∧ ∀ b,b < G0.length → b ≠ rb → nbU lv b → G[b]? = G0[b]?
theorem Kt.keepU {G0 G : Heap} {rb : Nat} (lv : AV) (h : Kt G0.length rb G0 G) : KeepU G0 lv rb G := ⟨h.1,fun b hb hr _ => h.2 b hb hr⟩
theorem KeepU.low {G0 G G' : Heap} {lv : AV} {rb : Nat} (h : KeepU G0 lv rb G) (h2 : Kt G0.length rb G G') : KeepU G0 lv rb G' := ⟨Nat.le_trans h.1 h2.1,fun b hb hr hn => (h2.2 b hb hr).trans (h.2 b hb hr hn)⟩
theorem KeepU.trans {G0 G G' : Heap} {lv lv' : AV} {rb : Nat} (h : KeepU G0 lv rb G) (h2 : KeepU G lv' rb G') (hn : ∀ b,b < G0.length → nbU lv b → nbU lv' b) : KeepU G0 lv rb G' := ⟨Nat.le_trans h.1 h2.1,fun b hb hr hb2 => (h2.2 b (Nat.lt_of_lt_of_le hb h.1) hr (hn b hb hb2)).trans (h.2 b hb hr hb2)⟩
def PAU (G : Heap) (X : Nat → Prop) (lv : AV) (args : List Int) (av : AV) : Prop := (args = [] ∧ av = .sl true 0 []) ∨ (∃ k,av = .own false k 0 args.length 1 ∧ G[k]? = some (.cells false false (xAG args)) ∧ args ≠ [] ∧ ¬ X k ∧ nbU lv k) ∨ (args ≠ [] ∧ av = .sl false args.length (xAG args))
def xY6 (p : Nd × AV) : List AV := [.int .u8 (p.1.op : Nat),.int .i64 p.1.name,p.2,.int .i64 p.1.x,.int .i64 p.1.a,.int .i64 p.1.b]
theorem xK6 (ps : List (Nd × AV)) : (ps.flatMap xY6).length = ps.length * 6 := by
 induction ps with
 | nil => rfl
 | cons p ps ih => rw [List.flatMap_cons,List.length_append,ih,List.length_cons]; show 6 + _ = _; omega
def PLU (G : Heap) (X : Nat → Prop) (lv : AV) (l : List Nd) : Prop := ∃ ps : List (Nd × AV),l = ps.map Prod.fst ∧ (∀ p ∈ ps,PAU G X lv p.1.args p.2) ∧ ((ps = [] ∧ lv = .sl true 0 []) ∨ ∃ ol,lv = .own false ol 0 ps.length 6 ∧ G[ol]? = some (.cells false false (ps.flatMap xY6)) ∧ ps ≠ [] ∧ ¬ X ol)
theorem PLU.keep {G G' : Heap} {X : Nat → Prop} {lv : AV} {l : List Nd} (h : PLU G X lv l) (hk : ∀ b,b < G.length → ¬ X b → G'[b]? = G[b]?) : PLU G' X lv l := by
 obtain ⟨ps,h1,h2,h3⟩ := h
 refine ⟨ps,h1,fun p hp => ?_,?_⟩
 ·rcases h2 p hp with g | ⟨k,g1,g2,g3,g4,g5⟩ | g
  ·exact .inl g
  ·exact .inr (.inl ⟨k,g1,(hk k (xAp g2) g4).trans g2,g3,g4,g5⟩)
  ·exact .inr (.inr g)
 ·rcases h3 with h3 | ⟨ol,g1,g2,g3,g4⟩
  ·exact .inl h3
  ·exact .inr ⟨ol,g1,(hk ol (xAp g2) g4).trans g2,g3,g4⟩
theorem PLU.kt {G G' : Heap} {X : Nat → Prop} {rb : Nat} {lv : AV} {l : List Nd} (h : PLU G X lv l) (hX : X rb) (hk : Kt G.length rb G G') : PLU G' X lv l := h.keep fun b hb hn => hk.2 b hb fun e => hn (e ▸ hX)
theorem PLU.mono {G : Heap} {X X' : Nat → Prop} {lv : AV} {l : List Nd} (h : PLU G X lv l) (hX : ∀ b,b < G.length → ¬ X b → ¬ X' b) : PLU G X' lv l := by
 obtain ⟨ps,h1,h2,h3⟩ := h
 refine ⟨ps,h1,fun p hp => ?_,?_⟩
 ·rcases h2 p hp with g | ⟨k,g1,g2,g3,g4,g5⟩ | g
  ·exact .inl g
  ·exact .inr (.inl ⟨k,g1,g2,g3,hX k (xAp g2) g4,g5⟩)
  ·exact .inr (.inr g)
 ·rcases h3 with h3 | ⟨ol,g1,g2,g3,g4⟩
  ·exact .inl h3
  ·exact .inr ⟨ol,g1,g2,g3,hX ol (xAp g2) g4⟩
theorem PLU.nb {G : Heap} {X : Nat → Prop} {lv : AV} {l : List Nd} (h : PLU G X lv l) {b : Nat} (hb : X b) : nbU lv b := by
 obtain ⟨ps,h1,h2,h3⟩ := h
 intro o m e
 rcases h3 with h3 | ⟨ol,g1,g2,g3,g4⟩
 ·rw [h3.2] at e; cases e
 ·rw [g1] at e; cases e; intro q; exact g4 (q ▸ hb)
theorem PLU.form {G : Heap} {X : Nat → Prop} {lv : AV} {l : List Nd} (h : PLU G X lv l) : (l.length = 0 ∧ lv = .sl true 0 []) ∨ ∃ ol,lv = .own false ol 0 l.length 6 := by
 obtain ⟨ps,h1,h2,h3⟩ := h
 subst h1
 rw [List.length_map]
 rcases h3 with ⟨rfl,h3⟩ | ⟨ol,g1,_⟩
 ·exact .inl ⟨rfl,h3⟩
 ·exact .inr ⟨ol,g1⟩
def PCU (N M : Nat) (G : Heap) (rb ix : Nat) (us : List Int) (av : AV) : Prop := (us = [] ∧ av = .sl true 0 []) ∨ (∃ k,av = .own false k 0 us.length 1 ∧ G[k]? = some (.cells false false (xAG us)) ∧ us ≠ [] ∧ N ≤ k ∧ k < M ∧ k ≠ rb ∧ k ≠ ix) ∨ (us ≠ [] ∧ av = .sl false us.length (xAG us))
theorem PCU.keep {N M : Nat} {G G' : Heap} {rb ix : Nat} {us : List Int} {av : AV} (h : PCU N M G rb ix us av) (hk : ∀ b,N ≤ b → b < M → b ≠ rb → b ≠ ix → G'[b]? = G[b]?) : PCU N M G' rb ix us av := by
 rcases h with h | ⟨k,h1,h2,h3,h4,h5,h6,h7⟩ | h
 ·exact .inl h
 ·exact .inr (.inl ⟨k,h1,(hk k h4 h5 h6 h7).trans h2,h3,h4,h5,h6,h7⟩)
 ·exact .inr (.inr h)
theorem PCU.avu {N M : Nat} {G : Heap} {rb ix : Nat} {us : List Int} {av : AV} (h : PCU N M G rb ix us av) : AvU us av := by
 rcases h with h | ⟨k,h1,_⟩ | h
 ·exact .inl h.2
 ·exact .inr (.inl ⟨k,h1⟩)
 ·exact .inr (.inr h.2)
structure XS8 (G0 : Heap) (lv0 : AV) (G : Heap) (rb ix : Nat) (S : List UInt8) (at_ : Nat) (lv : AV) (many e op : Nat) (nm : Int) (av : AV) (x a b : Int) : Prop where
 rd : RS G rb S at_ lv many e
 al : at_ ≤ S.length
 hx : G[ix]? = some (xU op nm av x a b)
 kp : KeepU G0 lv0 rb G
 b1 : G0.length ≤ ix
 n1 : rb ≠ ix
section
variable {F : List AV} {G0 G : Heap} {rb ix at_ many e op B : Nat} {S : List UInt8} {lv0 lv av : AV} {ins : Bool} {nm x a b : Int} {c : UInt8}
theorem xY7 (h : RS G rb S at_ lv many e) (n1 : rb ≠ ix) (Y : Blk) : RS (G.set ix Y) rb S at_ lv many e := by
 unfold RS; rw [List.getElem?_set_ne (Ne.symm n1)]; exact h
theorem xIc (h : RS G rb S at_ lv many e) (T : Heap) : RS (G ++ T) rb S at_ lv many e := by
 unfold RS; rw [List.getElem?_append_left (xAp (show G[rb]? = some _ from h))]; exact h
theorem xY8 {t0 : Int} {ka : Nat} (hS : S.length ≤ 4096) (n1 : rb ≠ ix) (hB : B ≤ ix) (h : RS G rb S at_ lv many e) (hal : at_ ≤ S.length) (hx : G[ix]? = some (xU op nm (.own false ka 0 1 1) x a b)) (ga : G[ka]? = some (.cells false false [.int .i64 t0])) (hk : B ≤ ka) (hk1 : ka ≠ rb) (hk2 : ka ≠ ix) :
  ∃ G' at' e' av' us' k',L.loop xCd xEp ⟨xBy (.ptr rb 0) (.bool ins) (.ptr ix 0) (.int .i64 1),G⟩ = some (.exit 1,⟨xBy (.ptr rb 0) (.bool ins) (.ptr ix 0) k',G'⟩) ∧ RS G' rb S at' lv many e' ∧ at_ ≤ at' ∧ at' ≤ S.length ∧ G'[ix]? = some (xU op nm av' x a b) ∧ Kt B rb G G' ∧ PCU B G'.length G' rb ix us' av' ∧ (e ≠ 0 → e' = e ∧ at' = at_) ∧ (e = 0 → Rel S at' e' (xCs 1 0 (S.drop at_)) fun us => us' = t0 :: us) := by
 have hk' : ((1 : Int) < 2) = True := by simp
 have hpc : ∀ G' : Heap,G'[ka]? = G[ka]? → PCU B G'.length G' rb ix [t0] (.own false ka 0 1 1) := fun G' q => .inr (.inl ⟨ka,rfl,q.trans ga,by simp,hk,xAp (q.trans ga),hk1,hk2⟩)
 have lo := xAp (show G[rb]? = some _ from h)
 have lx := xAp hx
 have lk := xAp ga
 by_cases he : e = 0
 ·subst he
  cases hd : S.drop at_ with
  | nil =>
   have := xC7 hd hal
   refine ⟨_,at_,3,_,[t0],_,xNd h (by omega) hk',xC6 h _ _ _ _,Nat.le_refl _,hal,?_,Kt.set,hpc _ ?_,fun q => absurd rfl q,fun _ => ⟨rfl,by omega,by simp; omega⟩⟩
   ·rw [List.getElem?_set_ne n1]; exact hx
   ·rw [List.getElem?_set_ne (Ne.symm hk1)]
  | cons d r =>
   obtain ⟨a1,a2,a3⟩ := xCt hd
   by_cases hd41 : d = 41
   ·subst hd41
    have hp : xCs 1 0 (41 :: r) = .ok [] (41 :: r) := by simp [xCs]
    rw [hp,← hd]
    exact ⟨G,at_,0,_,[t0],_,xPZ h a1 hk',h,Nat.le_refl _,hal,hx,.refl _ _ _,hpc _ rfl,fun q => absurd rfl q,fun _ => Rel.okm rfl rfl⟩
   ·obtain ⟨at1,e1,t,q1,q0,q2,q3,q4⟩ := xK5 h hS hal
    have q4 := q4 rfl
    have hr := xUd (ins := ins) h a1 hd41 hx n1 ga hk1 hk2 q1
    have hp : xCs 1 0 (d :: r) = (xIj splB (d :: r)).bind fun t r => .ok [(t : Int)] r := by
     unfold xCs
     rw [if_neg (by simp [hd41])]
     rfl
    refine ⟨_,at1,e1,.own false G.length 0 2 1,[t0,t],_,hr.trans xY5,?_,q0,q2,?_,?_,.inr (.inl ⟨G.length,rfl,?_,by simp,by omega,by simp,by omega,by omega⟩),fun q => absurd rfl q,fun _ => ?_⟩
    ·refine xIc (xY7 ?_ n1 _) _
     unfold RS
     rw [List.getElem?_set_ne hk1]; exact xC6 h _ _ _ _
    ·rw [List.getElem?_append_left (by simpa using lx),List.getElem?_set_self (by simpa using lx)]
    ·exact (((Kt.set (T := rb)).trans (Kp.set hk).kt).trans (Kp.set hB).kt).trans (Kp.appB _ _ (by simp; omega)).kt
    ·rw [List.getElem?_append_right (by simp)]; simp [xAG]
    ·rw [hp,← hd]
     exact q4.bind (fun _ => ⟨rfl,rfl⟩) fun v q V => by subst V; exact Rel.okm q rfl
 ·exact ⟨G,at_,e,_,[t0],_,xUb h he hk',h,Nat.le_refl _,hal,hx,.refl _ _ _,hpc _ rfl,fun _ => ⟨rfl,rfl⟩,fun q => absurd q he⟩
theorem yA6 (hS : S.length ≤ 4096) (n1 : rb ≠ ix) (hB : B ≤ ix) (h : RS G rb S at_ lv many e) (hal : at_ ≤ S.length) (hx : G[ix]? = some (xU op nm (.sl true 0 []) x a b)) :
  ∃ G' at' e' av' us' k',L.loop xCd xEp ⟨xBy (.ptr rb 0) (.bool ins) (.ptr ix 0) (.int .i64 0),G⟩ = some (.exit 1,⟨xBy (.ptr rb 0) (.bool ins) (.ptr ix 0) k',G'⟩) ∧ RS G' rb S at' lv many e' ∧ at_ ≤ at' ∧ at' ≤ S.length ∧ G'[ix]? = some (xU op nm av' x a b) ∧ Kt B rb G G' ∧ PCU B G'.length G' rb ix us' av' ∧ (e ≠ 0 → e' = e ∧ at' = at_) ∧ (e = 0 → Rel S at' e' (xCs 2 0 (S.drop at_)) fun us => us' = us) := by
 have hk' : ((0 : Int) < 2) = True := by simp
 have hpc : ∀ G' : Heap,PCU B G'.length G' rb ix [] (.sl true 0 []) := fun G' => .inl ⟨rfl,rfl⟩
 have lo := xAp (show G[rb]? = some _ from h)
 have lx := xAp hx
 by_cases he : e = 0
 ·subst he
  cases hd : S.drop at_ with
  | nil =>
   have := xC7 hd hal
   refine ⟨_,at_,3,_,[],_,xNd h (by omega) hk',xC6 h _ _ _ _,Nat.le_refl _,hal,?_,Kt.set,hpc _,fun q => absurd rfl q,fun _ => ⟨rfl,by omega,by simp; omega⟩⟩
   rw [List.getElem?_set_ne n1]; exact hx
  | cons d r =>
   obtain ⟨a1,a2,a3⟩ := xCt hd
   by_cases hd41 : d = 41
   ·subst hd41
    have hp : xCs 2 0 (41 :: r) = .ok [] (41 :: r) := by simp [xCs]
    rw [hp,← hd]
    exact ⟨G,at_,0,_,[],_,xPZ h a1 hk',h,Nat.le_refl _,hal,hx,.refl _ _ _,hpc _,fun q => absurd rfl q,fun _ => Rel.okm rfl rfl⟩
   ·obtain ⟨at1,e1,t,q1,q0,q2,q3,q4⟩ := xK5 h hS hal
    have q4 := q4 rfl
    have hr := xUc (ins := ins) h a1 hd41 hx n1 q1
    have hp : xCs 2 0 (d :: r) = (xIj splB (d :: r)).bind fun t r => (xCs 1 0 r).bind fun ts r => .ok ((t : Int) :: ts) r := by
     conv => lhs; unfold xCs
     rw [if_neg (by simp [hd41])]
    have lG1 : (List.set (List.set G rb (rsB S at1 lv many e1)) ix (xU op nm (.own false G.length 0 1 1) x a b)).length = G.length := by simp
    have h2 : RS (List.set (List.set G rb (rsB S at1 lv many e1)) ix (xU op nm (.own false G.length 0 1 1) x a b) ++ [.cells false false [.int .i64 t]]) rb S at1 lv many e1 := xIc (xY7 (xC6 h _ _ _ _) n1 _) _
    have hx2 : (List.set (List.set G rb (rsB S at1 lv many e1)) ix (xU op nm (.own false G.length 0 1 1) x a b) ++ [.cells false false [.int .i64 t]])[ix]? = some (xU op nm (.own false G.length 0 1 1) x a b) := by
     rw [List.getElem?_append_left (by simpa using lx),List.getElem?_set_self (by simpa using lx)]
    have ga2 : (List.set (List.set G rb (rsB S at1 lv many e1)) ix (xU op nm (.own false G.length 0 1 1) x a b) ++ [.cells false false [.int .i64 t]])[G.length]? = some (.cells false false [.int .i64 t]) := by
     rw [List.getElem?_append_right (by simp)]; simp
    obtain ⟨G',at',e',av',us',k',r1,r2,r3,r4,r5,r6,r7,r8,r9⟩ := xY8 (B := B) (ins := ins) hS n1 hB h2 q2 hx2 ga2 (by omega) (by omega) (by omega)
    refine ⟨G',at',e',av',us',k',hr.trans r1,r2,by omega,r4,r5,?_,r7,fun q => absurd rfl q,fun _ => ?_⟩
    ·exact (((Kt.set (T := rb)).trans (Kp.set hB).kt).trans (Kp.appB _ _ (by simp; omega)).kt).trans r6
    ·rw [hp,← hd]
     refine q4.bind r8 fun v q V => (r9 q).bind (fun _ => ⟨rfl,rfl⟩) fun w q2 W => ?_
     subst V
     exact Rel.okm q2 W
 ·exact ⟨G,at_,e,_,[],_,xUb h he hk',h,Nat.le_refl _,hal,hx,.refl _ _ _,hpc _,fun _ => ⟨rfl,rfl⟩,fun q => absurd q he⟩
def P8 (op : Nat) (r : List UInt8) : PR (Nat × Nat × List Int) := (if op = 2 then xIj nmsB r else .ok 0 r).bind fun nm r => (if op = 7 then (xIj vrsB r).bind fun v r => .ok (8 + v) r else .ok 0 r).bind fun x r => (xCs (fhi op) (flo op) r).bind fun us r => .ok (nm,x,us) r
theorem XS8.on (hX : XS8 G0 lv0 G rb ix S at_ lv many e op nm av x a b) {at' e' : Nat} (hal : at' ≤ S.length) : XS8 G0 lv0 (G.set rb (rsB S at' lv many e')) rb ix S at' lv many e' op nm av x a b where
 rd := xC6 hX.rd _ _ _ _
 al := hal
 hx := by rw [List.getElem?_set_ne hX.n1]; exact hX.hx
 kp := hX.kp.low Kt.set
 b1 := hX.b1
 n1 := hX.n1
theorem XS8.setx (hX : XS8 G0 lv0 G rb ix S at_ lv many e op nm av x a b) {nm' : Int} {av' : AV} {x' a' b' : Int} : XS8 G0 lv0 (G.set ix (xU op nm' av' x' a' b')) rb ix S at_ lv many e op nm' av' x' a' b' where
 rd := xY7 hX.rd hX.n1 _
 al := hX.al
 hx := by rw [List.getElem?_set_self (xAp hX.hx)]
 kp := hX.kp.low (Kp.set hX.b1).kt
 b1 := hX.b1
 n1 := hX.n1
theorem s8 (hS : S.length ≤ 4096) (hF : Fu F rb ins ix) (X : XS8 G0 lv0 G rb ix S at_ lv many 0 op 0 (.sl true 0 []) 0 0 0) :
  ∃ F' G' at' e' nm' av' x' us',run L qc8 ⟨F,G⟩ = some (.normal,⟨F',G'⟩) ∧ Fu F' rb ins ix ∧ XS8 G0 lv0 G' rb ix S at' lv many e' op nm' av' x' 0 0 ∧ at_ ≤ at' ∧ Kt G0.length rb G G' ∧ PCU G0.length G'.length G' rb ix us' av' ∧ Rel S at' e' (P8 op (S.drop at_)) fun v => nm' = (v.1 : Nat) ∧ x' = (v.2.1 : Nat) ∧ us' = v.2.2 := by
 have nil : ∀ G' : Heap,PCU G0.length G'.length G' rb ix [] (.sl true 0 []) := fun G' => .inl ⟨rfl,rfl⟩
 have kx : ∀ (G' : Heap) (Y : Blk),Kt G0.length rb G' (G'.set ix Y) := fun G' Y => (Kp.set X.b1).kt
 by_cases o2 : op = 2
 ·subst o2
  obtain ⟨at1,e1,t,q1,q0,q2,q3,q4,q5,q6⟩ := xT9 97 104 97 104 nmsB yA4 X.rd hS X.al
  have q6 := q6 rfl
  have X1 := (X.on (e' := e1) q2).setx (nm' := (t : Nat) - 97) (av' := .sl true 0 []) (x' := 0) (a' := 0) (b' := 0)
  obtain ⟨G',at',e',av',us',k',r1,r2,r3,r4,r5,r6,r7,r8,r9⟩ := yA6 (B := G0.length) (ins := ins) hS X.n1 X.b1 X1.rd q2 X1.hx
  obtain ⟨F',f1,f2⟩ := yES hF rfl X.hx (t := (t : Nat)) (by omega) q1 (X.on (e' := e1) q2).hx r1
  refine ⟨F',G',at',e',_,av',0,us',f1,f2,⟨r2,r4,r5,X1.kp.low r6,X.b1,X.n1⟩,by omega,(Kt.set.trans (kx _ _)).trans r6,r7,?_⟩
  show Rel S at' e' ((xIj nmsB (S.drop at_)).bind fun nm r => (xCs 2 0 r).bind fun us r => .ok (nm,0,us) r) _
  refine q6.bind r8 fun v q V => (r9 q).bind (fun _ => ⟨rfl,rfl⟩) fun w qq W => ?_
  obtain ⟨c,v1,v2,v3⟩ := V
  have := xY3 c v1
  exact Rel.okm qq ⟨by show ((t : Nat) : Int) - 97 = (v : Nat); omega,rfl,W⟩
 by_cases o3 : op = 3
 ·subst o3
  obtain ⟨at1,e1,t,q1,q0,q2,q3,q4⟩ := xK5 X.rd hS X.al
  have q4 := q4 rfl
  have X1 := X.on (e' := e1) q2
  obtain ⟨at2,e2,t2,p1,p0,p2,p3,p4⟩ := xK5 X1.rd hS q2
  rw [List.set_set] at p1
  have X2 := X.on (e' := e2) p2
  obtain ⟨F',f1,f2⟩ := yER hF rfl X.hx q1 p1 X2.hx
  refine ⟨F',_,at2,e2,0,_,0,[t,t2],f1,f2,X2.setx,by omega,Kt.set.trans (kx _ _),.inr (.inr ⟨by simp,rfl⟩),?_⟩
  show Rel S at2 e2 (((xIj splB (S.drop at_)).bind fun t r => (((xIj splB r).bind fun t r => (PR.ok [] r).bind fun ts r => .ok ((t : Int) :: ts) r).bind fun ts r => .ok ((t : Int) :: ts) r)).bind fun us r => .ok (0,0,us) r) _
  refine Rel.bind (V := fun us => us = [t,t2]) (q4.bind p3 fun v q V => Rel.bind (V := fun us => us = [t2]) ((p4 q).bind (fun _ => ⟨rfl,rfl⟩) fun w q2 W => ?_) (fun _ => ⟨rfl,rfl⟩) fun w q2 W => ?_) (fun _ => ⟨rfl,rfl⟩) fun w q W => ?_
  ·subst W; exact Rel.okm q2 rfl
  ·subst W; subst V; exact Rel.okm q2 rfl
  ·subst W; exact Rel.okm q ⟨rfl,rfl,rfl⟩
 by_cases o7 : op = 7
 ·subst o7
  obtain ⟨at1,e1,t,q1,q0,q2,q3,q4,q5,q6⟩ := xT9 120 122 120 122 vrsB yA5 X.rd hS X.al
  have q6 := q6 rfl
  have X1 := X.on (e' := e1) q2
  obtain ⟨F',f1,f2⟩ := yEQ hF rfl X.hx (t := (t : Nat)) (by omega) q1 X1.hx
  refine ⟨F',_,at1,e1,0,_,_,[],f1,f2,X1.setx,q0,Kt.set.trans (kx _ _),nil _,?_⟩
  show Rel S at1 e1 (((xIj vrsB (S.drop at_)).bind fun v r => .ok (8 + v) r).bind fun x r => .ok (0,x,[]) r) _
  refine Rel.bind (V := fun j => ((t : Nat) : Int) - 112 = (j : Nat)) (q6.bind (fun _ => ⟨rfl,rfl⟩) fun v q V => ?_) (fun _ => ⟨rfl,rfl⟩) fun v q V => Rel.okm q ⟨rfl,V,rfl⟩
  obtain ⟨c,v1,v2,v3⟩ := V
  have := xY4 c v1
  exact Rel.okm q (by show ((t : Nat) : Int) - 112 = ((8 + v : Nat) : Int); omega)
 ·obtain ⟨F',f1,f2⟩ := yEP hF ⟨o2,o3,o7⟩ X.hx
  refine ⟨F',G,at_,0,0,_,0,[],f1,f2,X,Nat.le_refl _,.refl _ _ _,nil _,?_⟩
  have : P8 op (S.drop at_) = .ok (0,0,[]) (S.drop at_) := by
   unfold P8
   have h0 : fhi op = 0 := by unfold fhi; rw [if_neg (by omega)]
   simp only [PR.bind,if_neg o2,if_neg o7,h0,xCs]
  rw [this]
  exact Rel.okm rfl ⟨rfl,rfl,rfl⟩
end
def xVX (rb : Nat) (S : List UInt8) (k : Nat) : Prop := ∀ (many : Nat) (l : List Nd) (G : Heap) (at_ : Nat) (lv : AV) (X : Nat → Prop),RS G rb S at_ lv many 0 → at_ ≤ S.length → S.length - at_ < k → PLU G X lv l → X rb → (∀ b,X b → b < G.length) → l.length ≤ many → many ≤ 64 →
  ∃ G' at' e' lv' l' m',L.icall (.func 43 []) [.ptr rb 0] G = some (.tup [],G') ∧ RS G' rb S at' lv' m' e' ∧ at_ ≤ at' ∧ at' ≤ S.length ∧ PLU G' X lv' l' ∧ l'.length + many ≤ m' + l.length ∧ m' ≤ 65 ∧ (e' = 0 → m' ≤ 64) ∧ l.length ≤ l'.length ∧ (∀ b,b < G.length → nbU lv b → nbU lv' b) ∧ KeepU G lv rb G' ∧
   Rel S at' e' (xCh k many l (S.drop at_)) fun v => v.1 = m' ∧ v.2 = l' ∧ l.length < l'.length
theorem xY9 : a43 = ⟨143,a43.code,[]⟩ := by kernel_rfl
theorem xJ1 (rb : Nat) (G : Heap) : xAS L a43 [.ptr rb 0] G = xHw [] (run L a43.code ⟨[.ptr rb 0] ++ pads 142,G⟩) := by
 have h : ∀ (c : ACode),xAS L ⟨143,c,[]⟩ [.ptr rb 0] G = xHw [] (run L c ⟨[.ptr rb 0] ++ pads 142,G⟩) := fun c => xAj ..
 exact (congrArg (fun f => xAS L f [.ptr rb 0] G) xY9).trans (h _)
theorem xId {n : Nat} (rb : Nat) (h : n = 142) : FuA ([.ptr rb 0] ++ pads n) rb := by
 subst h
 exact ⟨rfl,rfl⟩
theorem xNe (F : List AV) (G : Heap) : xHw [] (some (.ret,⟨F,G⟩)) = some (.tup [],G) := rfl
theorem yA7 (F : List AV) (G : Heap) : xHw [] (some (.normal,⟨F,G⟩)) = some (.tup [],G) := rfl
theorem xUg {G : Heap} {rb at_ many e : Nat} {S : List UInt8} {lv : AV} (h : RS G rb S at_ lv many e) (he : e ≠ 0) : L.icall (.func 43 []) [.ptr rb 0] G = some (.tup [],G) := by
 obtain ⟨F',e0,_⟩ := yBe (G := G) (xId rb rfl) h he
 rw [xZm,List.append_nil,xJ1,xJ3,xAw,e0,xDq,xNe]
theorem xVY {c : UInt8} {r r' : List UInt8} {u : Unit} (h : xBV c r = .ok u r') : r'.length < r.length := by
 cases r with
 | nil => cases h
 | cons d q =>
  by_cases hd : d = c
  ·have : xBV c (d :: q) = .ok () q := by simp [xBV,xBU,PR.bind,hd]
   rw [this] at h; cases h; simp
  ·have : xBV c (d :: q) = .bad (d :: q) 2 := by simp [xBV,xBU,PR.bind,hd]
   rw [this] at h; cases h
structure LI (G0 : Heap) (lv0 : AV) (G : Heap) (rb ix M : Nat) (Y : Nat → Prop) (us : List Int) (av lv : AV) (many : Nat) (l : List Nd) (e : Nat) : Prop where
 pl : PLU G Y lv l
 pc : PCU G0.length M G rb ix us av
 hM : M ≤ G.length
 lm : l.length ≤ many
 m65 : many ≤ 65
 m64 : e = 0 → many ≤ 64
 nb : ∀ b,b < G0.length → nbU lv0 b → nbU lv b
structure YI (G0 : Heap) (M rb ix : Nat) (Y : Nat → Prop) : Prop where
 yb : ∀ b,Y b → b < M
 ym : ∀ b,G0.length ≤ b → b < M → Y b
 yr : Y rb
 yx : ix < M
section
variable {F : List AV} {G0 G : Heap} {rb ix at_ many e op M k : Nat} {S : List UInt8} {lv0 lv av : AV} {ins : Bool} {nm x a b : Int} {c : UInt8} {Y : Nat → Prop} {us : List Int} {l : List Nd}
theorem PLU.setx {B : Blk} (h : PLU G Y lv l) (hx : Y ix) : PLU (G.set ix B) Y lv l := h.keep fun b _ hn => List.getElem?_set_ne fun e => by subst e; exact hn hx
theorem PCU.setx {N M : Nat} {B : Blk} (h : PCU N M G rb ix us av) : PCU N M (G.set ix B) rb ix us av := h.keep fun b _ _ _ h4 => List.getElem?_set_ne (Ne.symm h4)
theorem PCU.setr {N M : Nat} {B : Blk} (h : PCU N M G rb ix us av) : PCU N M (G.set rb B) rb ix us av := h.keep fun b _ _ h3 _ => List.getElem?_set_ne (Ne.symm h3)
theorem LI.setx {B : Blk} (hY : YI G0 M rb ix Y) (h : LI G0 lv0 G rb ix M Y us av lv many l e) (b1 : G0.length ≤ ix) : LI G0 lv0 (G.set ix B) rb ix M Y us av lv many l e := ⟨h.pl.setx (hY.ym _ b1 hY.yx),h.pc.setx,by simpa using h.hM,h.lm,h.m65,h.m64,h.nb⟩
theorem LI.setr {B : Blk} (hY : YI G0 M rb ix Y) (h : LI G0 lv0 G rb ix M Y us av lv many l e) {e' : Nat} (he : e' = 0 → e = 0) : LI G0 lv0 (G.set rb B) rb ix M Y us av lv many l e' := ⟨h.pl.kt hY.yr Kt.set,h.pc.setr,by simpa using h.hM,h.lm,h.m65,fun q => h.m64 (he q),h.nb⟩
theorem xP0 (hS : S.length ≤ 4096) (hrec : xVX rb S k) (hY : YI G0 M rb ix Y) (X : XS8 G0 lv0 G rb ix S at_ lv many e op nm av x a b) (hfu : S.length - at_ ≤ k) (I : LI G0 lv0 G rb ix M Y us av lv many l e) :
  ∃ G2 at' e' lv' l' m',L.icall (.func 80 []) [.ptr rb 0] G = some (.int .i64 ((l'.length : Nat) - 1),G2) ∧ XS8 G0 lv0 G2 rb ix S at' lv' m' e' op nm av x a b ∧ LI G0 lv0 G2 rb ix M Y us av lv' m' l' e' ∧ at_ ≤ at' ∧ l'.length + many ≤ m' + l.length ∧ l.length ≤ l'.length ∧ (e ≠ 0 → e' = e ∧ at' = at_) ∧
   (e = 0 → Rel S at' e' ((xBV 32 (S.drop at_)).bind fun _ r => xCh k many l r) fun v => v.1 = m' ∧ v.2 = l' ∧ l.length < l'.length) := by
 obtain ⟨at1,e1,m1,m0,m2,m3,m4⟩ := xOl 32 X.rd hS X.al
 have X1 := X.on (e' := e1) m2
 have hlM := I.hM
 have hkp := X.kp.1
 have hlm := I.lm
 have hm65 := I.m65
 have hl1 : (G.set rb (rsB S at1 lv many e1)).length = G.length := List.length_set
 by_cases he1 : e1 = 0
 ·subst he1
  have he : e = 0 := by
   rcases Nat.eq_zero_or_pos e with q | q
   ·exact q
   ·have := (m3 (by omega)).1; omega
  subst he
  have m4 := m4 rfl
  have I1 := I.setr (B := rsB S at1 lv many 0) (e' := 0) hY (fun q => q)
  have hlt : at_ < at1 := by
   cases hp : xBV 32 (S.drop at_) with
   | ok v r =>
    rw [hp] at m4
    have h1 := xVY hp
    rw [← m4.2.1,List.length_drop,List.length_drop] at h1
    omega
   | bad rr e2 => rw [hp] at m4; exact absurd rfl m4.2.1
  obtain ⟨G2,at',e',lv',l',m',r1,r2,r3,r4,r5,r6,r7,r8,r9,r10,r11,r12⟩ := hrec many l _ at1 lv Y X1.rd m2 (by omega) I1.pl hY.yr (fun b hb => by rw [hl1]; exact Nat.lt_of_lt_of_le (hY.yb b hb) hlM) hlm (I.m64 rfl)
  have hc := xUe m1 r1 r2 r5.form (by omega)
  rw [hl1] at r10
  have kept : ∀ b,G0.length ≤ b → b < M → b ≠ rb → G2[b]? = G[b]? := fun b h1 h2 h3 => by
   rw [r11.2 b (by rw [hl1]; omega) h3 (I.pl.nb (hY.ym b h1 h2)),List.getElem?_set_ne (Ne.symm h3)]
  refine ⟨G2,at',e',lv',l',m',hc,⟨r2,r4,?_,?_,X.b1,X.n1⟩,⟨r5,?_,?_,by omega,r7,r8,fun b hb hn => r10 b (by omega) (I.nb b hb hn)⟩,by omega,r6,r9,fun q => absurd rfl q,fun _ => m4.bind (fun q => absurd rfl q) fun v q _ => r12⟩
  ·rw [kept ix X.b1 hY.yx (Ne.symm X.n1)]; exact X.hx
  ·exact X1.kp.trans r11 I.nb
  ·exact I.pc.keep fun b h1 h2 h3 _ => kept b h1 h2 h3
  ·have := r11.1; rw [hl1] at this; omega
 ·have I1 := I.setr (B := rsB S at1 lv many e1) (e' := e1) hY (fun q => absurd q he1)
  have hc := xUe m1 (xUg X1.rd he1) X1.rd I.pl.form (by omega)
  exact ⟨_,at1,e1,lv,l,many,hc,X1,I1,m0,by omega,Nat.le_refl _,m3,fun q => (m4 q).bind (fun _ => ⟨rfl,rfl⟩) fun v q2 _ => absurd q2 he1⟩
def P9 (k op many : Nat) (l : List Nd) (r : List UInt8) : PR (Nat × List Nd) := if 1 ≤ chn op then (xBV 32 r).bind fun _ r => xCh k many l r else .ok (many,l) r
def P10 (k op : Nat) (p : Nat × List Nd) (r : List UInt8) : PR (Nat × List Nd) := if chn op = 2 then (xBV 32 r).bind fun _ r => xCh k p.1 p.2 r else .ok p r
def P11 (c : UInt8) (r : List UInt8) : PR Unit := if c = 40 then xBV 41 r else .ok () r
theorem s9 (hS : S.length ≤ 4096) (hrec : xVX rb S k) (hF : Fu F rb ins ix) (hY : YI G0 M rb ix Y) (X : XS8 G0 lv0 G rb ix S at_ lv many e op nm av x 0 b) (hfu : S.length - at_ ≤ k) (I : LI G0 lv0 G rb ix M Y us av lv many l e) :
  ∃ F' G2 at' e' lv' l' m',run L qc9 ⟨F,G⟩ = some (.normal,⟨F',G2⟩) ∧ Fu F' rb ins ix ∧ XS8 G0 lv0 G2 rb ix S at' lv' m' e' op nm av x (if 1 ≤ chn op then (l'.length : Int) - 1 else 0) b ∧ LI G0 lv0 G2 rb ix M Y us av lv' m' l' e' ∧ at_ ≤ at' ∧ l'.length + many ≤ m' + l.length ∧ l.length ≤ l'.length ∧ (e ≠ 0 → e' = e ∧ at' = at_) ∧
   (e = 0 → Rel S at' e' (P9 k op many l (S.drop at_)) fun v => v.1 = m' ∧ v.2 = l') := by
 unfold P9
 by_cases c1 : 1 ≤ chn op
 ·rw [if_pos c1]
  obtain ⟨G2,at',e',lv',l',m',h1,h2,h3,h4,h5,h6,h7,h8⟩ := xP0 hS hrec hY X hfu I
  obtain ⟨F',f1,f2⟩ := u9t hF c1 X.hx h1 h2.hx
  refine ⟨F',_,at',e',lv',l',m',f1,f2,?_,h3.setx hY X.b1,h4,h5,h6,h7,fun q => (h8 q).mono fun v V => ⟨V.1,V.2.1⟩⟩
  rw [if_pos c1]
  exact h2.setx
 ·rw [if_neg c1]
  obtain ⟨F',f1,f2⟩ := u9f hF c1 X.hx
  refine ⟨F',G,at_,e,lv,l,many,f1,f2,?_,I,Nat.le_refl _,by omega,Nat.le_refl _,fun _ => ⟨rfl,rfl⟩,fun q => Rel.okm q ⟨rfl,rfl⟩⟩
  rw [if_neg c1]; exact X
theorem s10 (hS : S.length ≤ 4096) (hrec : xVX rb S k) (hF : Fu F rb ins ix) (hY : YI G0 M rb ix Y) (X : XS8 G0 lv0 G rb ix S at_ lv many e op nm av x a 0) (hfu : S.length - at_ ≤ k) (I : LI G0 lv0 G rb ix M Y us av lv many l e) :
  ∃ F' G2 at' e' lv' l' m',run L xZn ⟨F,G⟩ = some (.normal,⟨F',G2⟩) ∧ Fu F' rb ins ix ∧ XS8 G0 lv0 G2 rb ix S at' lv' m' e' op nm av x a (if chn op = 2 then (l'.length : Int) - 1 else 0) ∧ LI G0 lv0 G2 rb ix M Y us av lv' m' l' e' ∧ at_ ≤ at' ∧ l'.length + many ≤ m' + l.length ∧ l.length ≤ l'.length ∧ (e ≠ 0 → e' = e ∧ at' = at_) ∧
   (e = 0 → Rel S at' e' (P10 k op (many,l) (S.drop at_)) fun v => v.1 = m' ∧ v.2 = l') := by
 unfold P10
 by_cases c1 : chn op = 2
 ·rw [if_pos c1]
  obtain ⟨G2,at',e',lv',l',m',h1,h2,h3,h4,h5,h6,h7,h8⟩ := xP0 hS hrec hY X hfu I
  obtain ⟨F',f1,f2⟩ := yET hF c1 X.hx h1 h2.hx
  refine ⟨F',_,at',e',lv',l',m',f1,f2,?_,h3.setx hY X.b1,h4,h5,h6,h7,fun q => (h8 q).mono fun v V => ⟨V.1,V.2.1⟩⟩
  rw [if_pos c1]
  exact h2.setx
 ·rw [if_neg c1]
  obtain ⟨F',f1,f2⟩ := yEU hF c1 X.hx
  refine ⟨F',G,at_,e,lv,l,many,f1,f2,?_,I,Nat.le_refl _,by omega,Nat.le_refl _,fun _ => ⟨rfl,rfl⟩,fun q => Rel.okm q ⟨rfl,rfl⟩⟩
  rw [if_neg c1]; exact X
theorem s11 (hS : S.length ≤ 4096) (hF : Fu F rb (c == 40) ix) (hY : YI G0 M rb ix Y) (X : XS8 G0 lv0 G rb ix S at_ lv many e op nm av x a b) (I : LI G0 lv0 G rb ix M Y us av lv many l e) :
  ∃ F' G2 at' e',run L xZo ⟨F,G⟩ = some (.normal,⟨F',G2⟩) ∧ Fu F' rb (c == 40) ix ∧ XS8 G0 lv0 G2 rb ix S at' lv many e' op nm av x a b ∧ LI G0 lv0 G2 rb ix M Y us av lv many l e' ∧ at_ ≤ at' ∧ (e ≠ 0 → e' = e ∧ at' = at_) ∧ (e = 0 → Rel S at' e' (P11 c (S.drop at_)) fun _ => True) := by
 unfold P11
 by_cases c4 : c = 40
 ·have hi : (c == 40) = true := by rw [c4]; rfl
  rw [if_pos c4]
  obtain ⟨at1,e1,m1,m0,m2,m3,m4⟩ := xOl 41 X.rd hS X.al
  obtain ⟨F',f1,f2⟩ := yEV hF hi m1
  exact ⟨F',_,at1,e1,f1,f2,X.on m2,I.setr hY (fun q => by rcases Nat.eq_zero_or_pos e with z | z; exact z; have := (m3 (by omega)).1; omega),m0,m3,m4⟩
 ·have hi : (c == 40) = false := by simpa using c4
  rw [if_neg c4]
  obtain ⟨F',f1,f2⟩ := yEW (G := G) hF hi
  exact ⟨F',G,at_,e,f1,f2,X,I,Nat.le_refl _,fun _ => ⟨rfl,rfl⟩,fun q => Rel.okm q trivial⟩
theorem xP1 {G' : Heap} {X : Nat → Prop} {ol : Nat} {ps : List (Nd × AV)} {n : Nd} (hk : ∀ b,b < G.length → b ≠ rb → nbU lv b → G'[b]? = G[b]?) (hXr : X rb) (hXb : ∀ b,X b → b < G.length) (hps : ∀ p ∈ ps,PAU G X lv p.1.args p.2) (hPA : PAU G X lv n.args av) (hol : G.length ≤ ol) (ho : G'[ol]? = some (.cells false false ((ps ++ [(n,av)]).flatMap xY6))) :
  PLU G' X (.own false ol 0 (ps.length + 1) 6) (ps.map Prod.fst ++ [n]) := by
 have hp : ∀ (us : List Int) (w : AV),PAU G X lv us w → PAU G' X (.own false ol 0 (ps.length + 1) 6) us w := by
  intro us w h
  rcases h with h | ⟨k,h1,h2,h3,h4,h5⟩ | h
  ·exact .inl h
  ·have hl := xAp h2
   exact .inr (.inl ⟨k,h1,(hk k hl (fun e => h4 (e ▸ hXr)) h5).trans h2,h3,h4,fun o m e => by cases e; omega⟩)
  ·exact .inr (.inr h)
 refine ⟨ps ++ [(n,av)],by simp,?_,.inr ⟨ol,by simp,ho,by simp,fun q => by have := hXb ol q; omega⟩⟩
 intro p hpm
 rcases List.mem_append.1 hpm with q | q
 ·exact hp _ _ (hps p q)
 ·obtain rfl := List.mem_singleton.1 q
  exact hp _ _ hPA
theorem s12 {X : Nat → Prop} (hF : Fu F rb ins ix) (h : RS G rb S at_ lv many e) (hx : G[ix]? = some (xU op nm av x a b)) (n1 : rb ≠ ix) (nbx : nbU lv ix) (hPL : PLU G X lv l) (hXr : X rb) (hXb : ∀ b,X b → b < G.length) (hPA : PAU G X lv us av) (hav : AvU us av) (hn : l.length ≤ 1000) :
  ∃ F' G' ol,run L xUB ⟨F,G⟩ = some (.normal,⟨F',G'⟩) ∧ RS G' rb S at_ (.own false ol 0 (l.length + 1) 6) many e ∧ PLU G' X (.own false ol 0 (l.length + 1) 6) (l ++ [⟨op,nm,us.isEmpty,us,x,a,b⟩]) ∧ G.length ≤ ol ∧ KeepU G lv rb G' := by
 have lo := xAp (show G[rb]? = some _ from h)
 obtain ⟨ps,rfl,h2,h3⟩ := hPL
 rw [List.length_map] at hn ⊢
 rcases h3 with ⟨rfl,rfl⟩ | ⟨ol,rfl,g2,g3,g4⟩
 ·obtain ⟨F',e1,_⟩ := yEM hF h hx n1 hav
  have hk : ∀ b',b' < G.length → b' ≠ rb → (G.set rb (rsB S at_ (.own false (G.length + 1) 0 1 6) many e) ++ [.cells false false [.int .u8 (op : Nat),.int .i64 nm,av,.int .i64 x,.int .i64 a,.int .i64 b],.cells false false [.int .u8 (op : Nat),.int .i64 nm,av,.int .i64 x,.int .i64 a,.int .i64 b]])[b']? = G[b']? := by
   intro b' hb hr
   rw [List.getElem?_append_left (by simpa using hb),List.getElem?_set_ne (Ne.symm hr)]
  refine ⟨F',_,G.length + 1,e1,xIc (xC6 h _ _ _ _) _,?_,by omega,⟨by simp,fun b' hb hr _ => hk b' hb hr⟩⟩
  refine xP1 (G := G) (lv := .sl true 0 []) (rb := rb) (ps := []) (fun b' hb hr _ => hk b' hb hr) hXr hXb h2 hPA (by omega) ?_
  rw [List.getElem?_append_right (by simp)]
  simp [xY6]
 ·have n3 : ol ≠ rb := fun q => g4 (q ▸ hXr)
  have n2 : ol ≠ ix := fun q => nbx ol ps.length rfl q.symm
  obtain ⟨F',e1,_⟩ := yEN hF h hx n1 n2 n3 g2 (xK6 ps) hn hav
  have hk : ∀ b',b' < G.length → b' ≠ rb → b' ≠ ol → (List.set (G.set ol .dead) rb (rsB S at_ (.own false (G.length + 1) 0 (ps.length + 1) 6) many e) ++ [.cells false false [.int .u8 (op : Nat),.int .i64 nm,av,.int .i64 x,.int .i64 a,.int .i64 b],.cells false false (ps.flatMap xY6 ++ [.int .u8 (op : Nat),.int .i64 nm,av,.int .i64 x,.int .i64 a,.int .i64 b])])[b']? = G[b']? := by
   intro b' hb hr h4
   rw [List.getElem?_append_left (by simpa using hb),List.getElem?_set_ne (Ne.symm hr),List.getElem?_set_ne (Ne.symm h4)]
  refine ⟨F',_,G.length + 1,e1,?_,?_,by omega,⟨by simp,fun b' hb hr hn => hk b' hb hr (hn ol ps.length rfl)⟩⟩
  ·refine xIc ?_ _
   unfold RS
   rw [List.getElem?_set_self (by simpa using lo)]
  ·refine xP1 (G := G) (lv := .own false ol 0 ps.length 6) (rb := rb) (ps := ps) (fun b' hb hr hn => hk b' hb hr (hn ol ps.length rfl)) hXr hXb h2 hPA (by omega) ?_
   rw [List.getElem?_append_right (by simp)]
   simp [xY6]
end
theorem xK7 {α β γ : Type} (p : PR α) (f : α → List UInt8 → PR β) (g : β → List UInt8 → PR γ) : (p.bind f).bind g = p.bind fun a r => (f a r).bind g := by cases p <;> rfl
theorem xQG {α β : Type} (v : α) (r : List UInt8) (f : α → List UInt8 → PR β) : (PR.ok v r).bind f = f v r := rfl
def TT (k many : Nat) (l : List Nd) (c : UInt8) (op : Nat) (r : List UInt8) : PR (Nat × List Nd) := (P8 op r).bind fun v r => (P9 k op (many + 1) l r).bind fun p r => (P10 k op p r).bind fun q r => (P11 c r).bind fun _ r =>
 .ok (q.1,q.2 ++ [⟨op,v.1,v.2.2.isEmpty,v.2.2,v.2.1,if 1 ≤ chn op then (p.2.length : Int) - 1 else 0,if chn op = 2 then (q.2.length : Int) - 1 else 0⟩]) r
theorem xIe (k many : Nat) (l : List Nd) (r : List UInt8) : xCh (k + 1) many l r = (xBU (fun c => c == 40 || smB c) 2 r).bind fun c r => if many = 64 then .bad r 4 else (xFH (c == 40) (if c = 40 then r.tail else r)).bind fun op r => TT k many l c op r := by
 conv => lhs; unfold xCh
 congr 1
 funext c r
 split
 ·rfl
 ·congr 1
  funext op r
  unfold TT P8 P9 P10 P11
  simp only [xK7,xQG]
theorem xUh {w : List UInt8} {ins : Bool} {op : Nat} (h : pop w ins = some op) : w ≠ [] := by
 rintro rfl
 cases ins <;> cases h
section
variable {F : List AV} {G0 G : Heap} {rb ix at_ many e op M k : Nat} {S : List UInt8} {lv0 lv av : AV} {ins : Bool} {nm x a b : Int} {c : UInt8} {Y : Nat → Prop} {us : List Int} {l : List Nd}
theorem xZa (ins : Bool) (h : RS G rb S at_ lv many 0) (hS : S.length ≤ 4096) (hal : at_ ≤ S.length) : ∃ at' e' op,L.icall (.func 76 []) [.ptr rb 0,.bool ins] G = some (.int .u8 (op : Nat),G.set rb (rsB S at' lv many e')) ∧ at_ ≤ at' ∧ at' ≤ S.length ∧ Rel S at' e' (xFH ins (S.drop at_)) fun v => v = op ∧ at_ < at' := by
 cases hd : S.drop at_ with
 | nil =>
  have := xC7 hd hal
  exact ⟨at_,3,0,xQM h (by omega),Nat.le_refl _,hal,⟨rfl,by omega,by simp; omega⟩⟩
 | cons c r =>
  obtain ⟨a1,a2,a3⟩ := xCt hd
  cases hc : (c == 61 || smB c) with
  | false =>
   have h61 : c ≠ 61 := by rintro rfl; simp at hc
   have hsm : smB c = false := by
    cases q : smB c
    ·rfl
    ·rw [q] at hc; simp at hc
   refine ⟨at_,2,0,xOn h hS a1 h61 hsm,Nat.le_refl _,hal,?_⟩
   have : xFH ins (c :: r) = .bad (c :: r) 2 := by
    unfold xFH xBU
    simp only [hc,Bool.false_eq_true,if_false,PR.bind]
   rw [this,← hd]
   exact xF6 hal (by omega)
  | true =>
   have hw := xOo (ins := ins) h hS hd hc
   have hp : xFH ins (c :: r) = (match pop (xA0 (c :: r)) ins with
    | some op => .ok op ((c :: r).drop (xA0 (c :: r)).length)
    | none => .bad (c :: r) 6) := by
    unfold xFH xBU
    simp only [hc,if_true,PR.bind]
    cases pop (xA0 (c :: r)) ins <;> rfl
   rw [hp]
   obtain ⟨w1,w2⟩ := xUt (c :: r)
   have hlen := congrArg List.length hd
   rw [List.length_drop] at hlen
   cases hq : pop (xA0 (c :: r)) ins with
   | some op =>
    rw [hq] at hw
    have hne := xUh hq
    have : 0 < (xA0 (c :: r)).length := List.length_pos_iff.2 hne
    refine ⟨_,0,op,hw,by omega,by omega,rfl,?_,rfl,by omega⟩
    rw [← List.drop_drop,hd]
   | none =>
    rw [hq] at hw
    refine ⟨at_,6,0,hw,Nat.le_refl _,hal,?_⟩
    show Rel S at_ 6 (.bad (c :: r) 6) _
    rw [← hd]
    exact xF6 hal (by omega)
theorem PCU.pau {N M : Nat} {X X' : Nat → Prop} (h : PCU N M G rb ix us av) (hX : ∀ b,X b → b < N) (hX' : ∀ b,N ≤ b → b < M → X' b) (hPL : PLU G X' lv l) : PAU G X lv us av := by
 rcases h with h | ⟨k,h1,h2,h3,h4,h5,h6,h7⟩ | h
 ·exact .inl h
 ·exact .inr (.inl ⟨k,h1,h2,h3,fun q => by have := hX k q; omega,hPL.nb (hX' k h4 h5)⟩)
 ·exact .inr (.inr h)
end
theorem yC5 {rb : Nat} {S : List UInt8} (hS : S.length ≤ 4096) : ∀ k,xVX rb S k := by
 intro k
 induction k with
 | zero => intro many l G at_ lv X h hal hfu; omega
 | succ k ih =>
  intro many l G at_ lv X h hal hfu hPL hXr hXb hlm hm64
  have lo := xAp (show G[rb]? = some _ from h)
  have fin : ∀ (G' : Heap) (at' e' m' : Nat),L.icall (.func 43 []) [.ptr rb 0] G = some (.tup [],G') → RS G' rb S at' lv m' e' → at_ ≤ at' → at' ≤ S.length → Kt G.length rb G G' → e' ≠ 0 → many ≤ m' → m' ≤ 65 → Rel S at' e' (xCh (k + 1) many l (S.drop at_)) (fun v => v.1 = m' ∧ v.2 = l ∧ l.length < l.length) →
    ∃ G' at' e' lv' l' m',L.icall (.func 43 []) [.ptr rb 0] G = some (.tup [],G') ∧ RS G' rb S at' lv' m' e' ∧ at_ ≤ at' ∧ at' ≤ S.length ∧ PLU G' X lv' l' ∧ l'.length + many ≤ m' + l.length ∧ m' ≤ 65 ∧ (e' = 0 → m' ≤ 64) ∧ l.length ≤ l'.length ∧ (∀ b,b < G.length → nbU lv b → nbU lv' b) ∧ KeepU G lv rb G' ∧ Rel S at' e' (xCh (k + 1) many l (S.drop at_)) fun v => v.1 = m' ∧ v.2 = l' ∧ l.length < l'.length :=
   fun G' at' e' m' q1 q2 q3 q4 q5 q6 q7 q8 q9 => ⟨G',at',e',lv,l,m',q1,q2,q3,q4,hPL.kt hXr q5,by omega,q8,fun q => absurd q q6,Nat.le_refl _,fun _ _ q => q,q5.keepU lv,q9⟩
  cases hd : S.drop at_ with
  | nil =>
   have := xC7 hd hal
   obtain ⟨F',e0,_⟩ := yBf (G := G) (xId rb rfl) h (by omega)
   rw [← hd]
   refine fin _ at_ 3 many ?_ (xC6 h _ _ _ _) (Nat.le_refl _) hal Kt.set (by omega) (Nat.le_refl _) (by omega) ?_
   ·rw [xZm,List.append_nil,xJ1,xJ3,xAw,e0,xDq,xNe]
   ·rw [xIe,hd]
    exact ⟨rfl,by omega,by simp; omega⟩
  | cons c r =>
   obtain ⟨a1,a2,a3⟩ := xCt hd
   obtain ⟨F1,e0,f1⟩ := yDb (G := G) (xId rb rfl) h (by omega)
   obtain ⟨F2,e1,f2⟩ := u1 f1 h a1
   rw [← hd]
   cases hc : (c == 40 || smB c) with
   | false =>
    have h40 : (c == 40) = false := by
     cases q : (c == 40)
     ·rfl
     ·rw [q] at hc; simp at hc
    have hsm : smB c = false := by
     cases q : smB c
     ·rfl
     ·rw [q] at hc; simp at hc
    obtain ⟨F3,e2,_⟩ := yBg f2 h40 h a1 hsm
    refine fin _ at_ 2 many ?_ (xC6 h _ _ _ _) (Nat.le_refl _) hal Kt.set (by omega) (Nat.le_refl _) (by omega) ?_
    ·rw [xZm,List.append_nil,xJ1,xJ3,xAw,e0,xAl,xAw,e1,xAl,xAw,e2,xDq,xNe]
    ·rw [xIe,hd]
     have : xBU (fun c => c == 40 || smB c) 2 (c :: r) = .bad (c :: r) 2 := by
      unfold xBU
      simp only [hc,Bool.false_eq_true,if_false]
     rw [this,← hd]
     exact xF6 hal (by omega)
   | true =>
    obtain ⟨F3,e2,f3⟩ : ∃ F',run L qc2 ⟨F2,G⟩ = some (.normal,⟨F',G⟩) ∧ FuB F' rb (c == 40) := by
     cases q : (c == 40) with
     | true => rw [q] at f2; exact yDc f2 rfl
     | false =>
      rw [q] at f2
      exact yDd f2 rfl h a1 (by rw [q] at hc; simpa using hc)
    obtain ⟨F4,e3,f4⟩ := u3 f3 h hm64
    have h4 := xC6 h at_ lv (many + 1) 0
    have hpf : xCh (k + 1) many l (S.drop at_) = if many = 64 then .bad (c :: r) 4 else (xFH (c == 40) (if c = 40 then r else c :: r)).bind fun op r => TT k many l c op r := by
     rw [xIe,hd]
     have : xBU (fun c => c == 40 || smB c) 2 (c :: r) = .ok c (c :: r) := by
      unfold xBU
      simp only [hc,if_true]
     rw [this]
     rfl
    by_cases hm : many = 64
    ·rw [if_pos hm] at hpf
     obtain ⟨F5,e4,_⟩ := yBh f4 h4 (by omega)
     rw [List.set_set] at e4
     refine fin _ at_ 4 (many + 1) ?_ (xC6 h _ _ _ _) (Nat.le_refl _) hal Kt.set (by omega) (by omega) (by omega) ?_
     ·rw [xZm,List.append_nil,xJ1,xJ3,xAw,e0,xAl,xAw,e1,xAl,xAw,e2,xAl,xAw,e3,xAl,xAw,e4,xDq,xNe]
     ·rw [hpf,← hd]
      exact xF6 hal (by omega)
    ·rw [if_neg hm] at hpf
     obtain ⟨F5,e4,f5⟩ := yDe f4 h4 (by omega)
     obtain ⟨F6,at1,e5,f6,d1,l1,g1⟩ : ∃ F6 at1,run L qc5 ⟨F5,G.set rb (rsB S at_ lv (many + 1) 0)⟩ = some (.normal,⟨F6,G.set rb (rsB S at1 lv (many + 1) 0)⟩) ∧ FuB F6 rb (c == 40) ∧ S.drop at1 = (if c = 40 then r else c :: r) ∧ at1 ≤ S.length ∧ at_ ≤ at1 := by
      by_cases c4 : c = 40
      ·have hi : (c == 40) = true := by rw [c4]; rfl
       obtain ⟨F6,e,f⟩ := u5t f5 hi h4 (by omega)
       rw [List.set_set] at e
       exact ⟨F6,at_ + 1,e,f,by rw [if_pos c4]; exact a2,a3,by omega⟩
      ·have hi : (c == 40) = false := by simpa using c4
       obtain ⟨F6,e,f⟩ := u5f (G := G.set rb (rsB S at_ lv (many + 1) 0)) f5 hi
       exact ⟨F6,at_,e,f,by rw [if_neg c4]; exact hd,hal,Nat.le_refl _⟩
     rw [← d1] at hpf
     have h5 := xC6 h at1 lv (many + 1) 0
     obtain ⟨at2,er,op,n1,n2,n3,n4⟩ := xZa (c == 40) h5 hS l1
     rw [List.set_set] at n1
     obtain ⟨F7,e6,f7⟩ := u6 f6 n1
     rw [List.length_set] at f7
     have h6 : RS (G.set rb (rsB S at2 lv (many + 1) er) ++ [xU op 0 (.sl true 0 []) 0 0 0]) rb S at2 lv (many + 1) er := xIc (xC6 h _ _ _ _) _
     have k6 : Kt G.length rb G (G.set rb (rsB S at2 lv (many + 1) er) ++ [xU op 0 (.sl true 0 []) 0 0 0]) := Kt.set.trans (Kp.appB _ _ (by simp)).kt
     by_cases her : er = 0
     ·subst her
      obtain ⟨F8,e7,f8⟩ := yDf f7 h6
      have hx6 : (G.set rb (rsB S at2 lv (many + 1) 0) ++ [xU op 0 (.sl true 0 []) 0 0 0])[G.length]? = some (xU op 0 (.sl true 0 []) 0 0 0) := by
       rw [List.getElem?_append_right (by simp)]; simp
      have X7 : XS8 G lv (G.set rb (rsB S at2 lv (many + 1) 0) ++ [xU op 0 (.sl true 0 []) 0 0 0]) rb G.length S at2 lv (many + 1) 0 op 0 (.sl true 0 []) 0 0 0 := ⟨h6,n3,hx6,k6.keepU lv,Nat.le_refl _,by omega⟩
      have hlt : at_ < at2 := by
       cases hq : xFH (c == 40) (S.drop at1) with
       | ok v r => rw [hq] at n4; have := n4.2.2.2; omega
       | bad rr e2 => rw [hq] at n4; exact absurd rfl n4.2.1
      obtain ⟨F9,G9,at9,e9,nm,av,x,us,r1,r2,X9,r4,k9,pc9,q9⟩ := s8 hS f8 X7
      have lx := xAp X9.hx
      have hM0 := X9.kp.1
      have hY : YI G G9.length rb G.length (fun b => X b ∨ (G.length ≤ b ∧ b < G9.length)) := ⟨fun b q => by rcases q with q | q; have := hXb b q; omega; exact q.2,fun b q1 q2 => .inr ⟨q1,q2⟩,.inl hXr,lx⟩
      generalize hYd : (fun b => X b ∨ (G.length ≤ b ∧ b < G9.length)) = Y at *
      have hYX : ∀ b,X b → Y b := fun b q => by rw [← hYd]; exact .inl q
      have hPL9 : PLU G9 Y lv l := by
       refine PLU.kt (X := Y) (rb := rb) ?_ (hYX rb hXr) (k6.trans k9)
       refine hPL.mono fun b hb hn => ?_
       rw [← hYd]
       rintro (q | q)
       ·exact hn q
       ·omega
      have I9 : LI G lv G9 rb G.length G9.length Y us av lv (many + 1) l e9 := ⟨hPL9,pc9,Nat.le_refl _,by omega,by omega,fun _ => by omega,fun _ _ q => q⟩
      obtain ⟨F10,G10,at10,e10,lv10,l10,m10,t1,t2,X10,I10,t3,t4,t5,t6,t7⟩ := s9 hS ih r2 hY X9 (by omega) I9
      generalize hpa : (if 1 ≤ chn op then (l10.length : Int) - 1 else 0) = pa at *
      obtain ⟨F11,G11,at11,e11,lv11,l11,m11,v1,v2,X11,I11,v3,v4,v5,v6,v7⟩ := s10 hS ih t2 hY X10 (by omega) I10
      generalize hpb : (if chn op = 2 then (l11.length : Int) - 1 else 0) = pb at *
      obtain ⟨F12,G12,at12,e12,w1,w2,X12,I12,w3,w4,w5⟩ := s11 hS v2 hY X11 I11
      have hPA : PAU G12 X lv11 us av := I12.pc.pau hXb hY.ym I12.pl
      have hkl := X12.kp.1
      have hPLX : PLU G12 X lv11 l11 := I12.pl.mono fun b _ hn q => hn (hYX b q)
      have hlm11 := I11.lm
      have hm11 := I11.m65
      obtain ⟨F13,G13,ol,z1,z2,z3,z4,z5⟩ := s12 w2 X12.rd X12.hx X12.n1 (I12.pl.nb (hY.ym _ (Nat.le_refl _) lx)) hPLX hXr (fun b hb => by have := hXb b hb; omega) hPA I12.pc.avu (by omega)
      have hln : (l11 ++ [(⟨op,nm,us.isEmpty,us,x,pa,pb⟩ : Nd)]).length = l11.length + 1 := by simp
      refine ⟨G13,at12,e12,_,_,m11,?_,z2,by omega,X12.al,z3,by rw [hln]; omega,hm11,I12.m64,by rw [hln]; omega,?_,X12.kp.trans z5 I12.nb,?_⟩
      ·rw [xZm,List.append_nil,xJ1,xJ3,xAw,e0,xAl,xAw,e1,xAl,xAw,e2,xAl,xAw,e3,xAl,xAw,e4,xAl,xAw,e5,xAl,xAw,e6,xAl,xAw,e7,xAl,xAw,r1,xAl,xAw,t1,xAl,xAw,v1,xAl,xAw,w1,xAl,z1,yA7]
      ·intro b hb _ o m q
       cases q; omega
      ·rw [hpf]
       have c9 : e9 ≠ 0 → e12 = e9 ∧ at12 = at9 := fun q => by
        obtain ⟨p1,p2⟩ := t6 q
        obtain ⟨p3,p4⟩ := v6 (by omega)
        obtain ⟨p5,p6⟩ := w4 (by omega)
        omega
       have c10 : e10 ≠ 0 → e12 = e10 ∧ at12 = at10 := fun q => by
        obtain ⟨p3,p4⟩ := v6 q
        obtain ⟨p5,p6⟩ := w4 (by omega)
        omega
       refine n4.bind (fun q => absurd rfl q) fun o _ V => ?_
       obtain ⟨rfl,_⟩ := V
       unfold TT
       refine q9.bind c9 fun v qv V => (t7 qv).bind c10 fun p qp P => ?_
       obtain ⟨p1,p2⟩ := p
       obtain ⟨rfl,rfl⟩ := P
       refine (v7 qp).bind w4 fun q qq Q => ?_
       obtain ⟨q1,q2⟩ := q
       obtain ⟨rfl,rfl⟩ := Q
       refine (w5 qq).bind (fun _ => ⟨rfl,rfl⟩) fun _ q3 _ => Rel.okm q3 ⟨rfl,?_,by rw [hln]; omega⟩
       obtain ⟨rfl,rfl,rfl⟩ := V
       rw [← hpa,← hpb]
     ·obtain ⟨F8,e7,_⟩ := yBi f7 h6 her
      refine fin _ at2 er (many + 1) ?_ h6 (by omega) n3 k6 her (by omega) (by omega) ?_
      ·rw [xZm,List.append_nil,xJ1,xJ3,xAw,e0,xAl,xAw,e1,xAl,xAw,e2,xAl,xAw,e3,xAl,xAw,e4,xAl,xAw,e5,xAl,xAw,e6,xAl,xAw,e7,xDq,xNe]
      ·rw [hpf]
       exact n4.bind (fun _ => ⟨rfl,rfl⟩) fun _ q _ => absurd q her
end Go.Abs.Events
/- The reference's Parse. -/
namespace Go.Abs.Events
open Go Go.Abs Go.Proofs
set_option linter.unusedSimpArgs false
set_option linter.unusedVariables false
theorem xNf {G : Heap} {X : Nat → Prop} {lv : AV} (d : Nat) : ∀ ps : List (Nd × AV),(∀ p ∈ ps,PAU G X lv p.1.args p.2) → (∀ p ∈ ps,p.1.z = p.1.args.isEmpty) → (ps.flatMap xY6).mapM (frz (d + 1) G) = some (nds (ps.map Prod.fst))
 | [],_,_ => rfl
 | p :: ps,h,hz => by
  have ih := xNf d ps (fun q hq => h q (List.mem_cons_of_mem _ hq)) fun q hq => hz q (List.mem_cons_of_mem _ hq)
  have hp := h p List.mem_cons_self
  have hzp := hz p List.mem_cons_self
  have hne : p.1.args ≠ [] → p.1.args.isEmpty = false := fun h3 => by
   cases ha : p.1.args with
   | nil => exact absurd ha h3
   | cons _ _ => rfl
  have e : frz (d + 1) G p.2 = some (xBW p.1.z p.1.args) := by
   rcases hp with ⟨h1,h2⟩ | ⟨k,h1,h2,h3,_⟩ | ⟨h3,h1⟩
   ·rw [h2,hzp,h1]; exact xDY _ _ _ _
   ·rw [h1,hzp]
    rw [hne h3,xCi,h2,xB1 (by rw [xD0]; omega),List.drop_zero,Nat.mul_one,xEj,xFc]
    rfl
   ·rw [h1,hzp,hne h3]; exact xDY _ _ _ _
  rw [List.flatMap_cons,List.map_cons]
  refine mapM_append' (b' := nds (ps.map Prod.fst)) (a' := p.1.c) ?_ ih
  show [.int .u8 (p.1.op : Nat),.int .i64 p.1.name,p.2,.int .i64 p.1.x,.int .i64 p.1.a,.int .i64 p.1.b].mapM (frz (d + 1) G) = _
  simp only [List.mapM_cons,List.mapM_nil,xCV,e]
  rfl
theorem xNg {G : Heap} {X : Nat → Prop} {ol n : Nat} {l : List Nd} (d : Nat) (h : PLU G X (.own false ol 0 n 6) l) (hz : ∀ x ∈ l,x.z = x.args.isEmpty) : frz (d + 2) G (.own false ol 0 n 6) = some (.sl false l.length (nds l)) ∧ n = l.length ∧ l ≠ [] := by
 obtain ⟨ps,rfl,h2,h3⟩ := h
 rcases h3 with ⟨_,h3⟩ | ⟨ol',h3,g2,g3,g4⟩
 ·cases h3
 ·cases h3
  have hr := xNf d ps h2 fun p hp => hz _ (List.mem_map_of_mem hp)
  refine ⟨?_,by simp,by simpa using g3⟩
  rw [xCi,g2,xB1 (by rw [xK6]; omega),List.drop_zero,List.take_of_length_le (by rw [xK6]; omega),hr,List.length_map]
  rfl
theorem yA8 (args : List AV) : L.pcall 13 args = xAE L a13 args := xAo rfl args
section
variable {S : List UInt8} {G : Heap} {at_ ol n many e : Nat} {lv : AV} {l : List Nd}
theorem xVZ (hS : 4096 < S.length) : L.pcall 13 [zS S] = some (.tup [.sl true 0 [],.int .i64 0,.int .i64 4]) := by
 have hsz : (⟨S.toArray⟩ : ByteArray).size = S.length := by simp [ByteArray.size]
 have hc : ((4096 : Int) < (S.length : Nat)) = True := by simp; omega
 rw [yA8,a13,xAe]
 simp (disch := omega) only [WB,Nat.reduceSub,WA,hsz,hc,↓reduceIte]
theorem xZb (hS : S.length ≤ 4096) (hf : L.icall (.func 43 []) [.ptr 0 0] [rsB S 0 (.sl true 0 []) 0 0] = some (.tup [],G)) (h : RS G 0 S at_ lv many e) (he : e ≠ 0) : L.pcall 13 [zS S] = some (.tup [.sl true 0 [],.int .i64 (at_ : Nat),.int .i64 (e : Nat)]) := by
 have hsz : (⟨S.toArray⟩ : ByteArray).size = S.length := by simp [ByteArray.size]
 have hc : ((4096 : Int) < (S.length : Nat)) = False := by simp; omega
 have heI : (((e : Nat) : Int) = 0) = False := by simp; omega
 have hf' : L.icall (.func 43 []) [.ptr 0 0] [.cells false false [zS S,.int .i64 0,.sl true 0 [],.int .i64 0,.int .i64 0]] = some (.tup [],G) := hf
 unfold RS at h
 have l0 := xAp h
 rw [yA8,a13,xAe]
 simp (maxSteps := 30000000) (disch := first|exact D5|fail) only [WB,Nat.reduceSub,WA,hsz,hc,↓reduceIte,AV.cells,Nat.reduceAdd,Nat.reduceLeDiff,AV.isCell,hf',h,heI,xAh]
theorem xV0 (hS : S.length ≤ 4096) (hf : L.icall (.func 43 []) [.ptr 0 0] [rsB S 0 (.sl true 0 []) 0 0] = some (.tup [],G)) (h : RS G 0 S at_ lv many 0) (hlt : at_ < S.length) : L.pcall 13 [zS S] = some (.tup [.sl true 0 [],.int .i64 (at_ : Nat),.int .i64 5]) := by
 have hsz : (⟨S.toArray⟩ : ByteArray).size = S.length := by simp [ByteArray.size]
 have hc : ((4096 : Int) < (S.length : Nat)) = False := by simp; omega
 have hl : (((at_ : Nat) : Int) < (S.length : Nat)) = True := by simp; omega
 have hf' : L.icall (.func 43 []) [.ptr 0 0] [.cells false false [zS S,.int .i64 0,.sl true 0 [],.int .i64 0,.int .i64 0]] = some (.tup [],G) := hf
 have h' : G[0]? = some (.cells false false [zS S,.int .i64 (at_ : Nat),lv,.int .i64 (many : Nat),.int .i64 0]) := h
 have l0 := xAp h'
 rw [yA8,a13,xAe]
 simp (maxSteps := 30000000) (disch := first|exact D5|fail) only [WB,Nat.reduceSub,WA,hsz,hc,↓reduceIte,AV.cells,Nat.reduceAdd,Nat.reduceLeDiff,AV.isCell,hf',h',hl,xDD,Int.reduceEq,xAh]
theorem xV1 (hS : S.length ≤ 4096) (hf : L.icall (.func 43 []) [.ptr 0 0] [rsB S 0 (.sl true 0 []) 0 0] = some (.tup [],G)) (h : RS G 0 S at_ (.own false ol 0 n 6) many 0) (hge : S.length ≤ at_) (hn : 0 < n) (hn2 : n ≤ 1000) (hz : frz 6 G (.own false ol 0 n 6) = some (.sl false n (nds l))) (h44 : L.pcall 44 [.sl false n (nds l),.int .i64 ((n - 1 : Nat) : Int),.agg (bdA 0)] = some (.bool true)) : L.pcall 13 [zS S] = some (.tup [.sl true 0 [],.int .i64 0,.int .i64 11]) := by
 have hsz : (⟨S.toArray⟩ : ByteArray).size = S.length := by simp [ByteArray.size]
 have hc : ((4096 : Int) < (S.length : Nat)) = False := by simp; omega
 have hl : (((at_ : Nat) : Int) < (S.length : Nat)) = False := by simp; omega
 have hs : ((n : Nat) : Int) - 1 = ((n - 1 : Nat) : Int) := by omega
 have hf' : L.icall (.func 43 []) [.ptr 0 0] [.cells false false [zS S,.int .i64 0,.sl true 0 [],.int .i64 0,.int .i64 0]] = some (.tup [],G) := hf
 have h' : G[0]? = some (.cells false false [zS S,.int .i64 (at_ : Nat),(.own false ol 0 n 6),.int .i64 (many : Nat),.int .i64 0]) := h
 have l0 := xAp h'
 have h44' : L.pcall 44 [.sl false n (nds l),.int .i64 ((n - 1 : Nat) : Int),.agg [.bool false,.bool false,.bool false]] = some (.bool true) := h44
 generalize nds l = NL at *
 rw [yA8,a13,xAe]
 simp (maxSteps := 30000000) (disch := first|exact D5|fail) only [WB,Nat.reduceSub,WA,hsz,hc,↓reduceIte,AV.cells,Nat.reduceAdd,Nat.reduceLeDiff,AV.isCell,hf',h',hl,hs,xAh,hz,h44',xAN,xAt]
theorem yA9 (hS : S.length ≤ 4096) (hf : L.icall (.func 43 []) [.ptr 0 0] [rsB S 0 (.sl true 0 []) 0 0] = some (.tup [],G)) (h : RS G 0 S at_ (.own false ol 0 n 6) many 0) (hge : S.length ≤ at_) (hn : 0 < n) (hn2 : n ≤ 1000) (hz : frz 6 G (.own false ol 0 n 6) = some (.sl false n (nds l))) (hz5 : frz 5 G (.own false ol 0 n 6) = some (.sl false n (nds l))) (h44 : L.pcall 44 [.sl false n (nds l),.int .i64 ((n - 1 : Nat) : Int),.agg (bdA 0)] = some (.bool false)) : L.pcall 13 [zS S] = some (.tup [.sl false n (nds l),.int .i64 0,.int .i64 0]) := by
 have hsz : (⟨S.toArray⟩ : ByteArray).size = S.length := by simp [ByteArray.size]
 have hc : ((4096 : Int) < (S.length : Nat)) = False := by simp; omega
 have hl : (((at_ : Nat) : Int) < (S.length : Nat)) = False := by simp; omega
 have hs : ((n : Nat) : Int) - 1 = ((n - 1 : Nat) : Int) := by omega
 have hf' : L.icall (.func 43 []) [.ptr 0 0] [.cells false false [zS S,.int .i64 0,.sl true 0 [],.int .i64 0,.int .i64 0]] = some (.tup [],G) := hf
 have h' : G[0]? = some (.cells false false [zS S,.int .i64 (at_ : Nat),(.own false ol 0 n 6),.int .i64 (many : Nat),.int .i64 0]) := h
 have l0 := xAp h'
 have h44' : L.pcall 44 [.sl false n (nds l),.int .i64 ((n - 1 : Nat) : Int),.agg [.bool false,.bool false,.bool false]] = some (.bool false) := h44
 generalize nds l = NL at *
 rw [yA8,a13,xAe]
 simp (maxSteps := 30000000) (disch := first|exact D5|fail) only [WB,Nat.reduceSub,WA,hsz,hc,↓reduceIte,AV.cells,Nat.reduceAdd,Nat.reduceLeDiff,AV.isCell,hf',h',hl,hs,xAh,hz,h44',xAN,xAt,hz5]
end
theorem xV2 (S : List UInt8) : L.pcall 13 [zS S] = some (.tup [.sl (parse S).1.isEmpty (parse S).1.length (nds (parse S).1),.int .i64 ((parse S).2.1 : Nat),.int .i64 ((parse S).2.2 : Nat)]) := by
 by_cases hS : 4096 < S.length
 ·have : parse S = ([],0,4) := by unfold parse; rw [if_pos hS]
  rw [this]
  exact xVZ hS
 have hS : S.length ≤ 4096 := by omega
 have hRS : RS [rsB S 0 (.sl true 0 []) 0 0] 0 S 0 (.sl true 0 []) 0 0 := rfl
 obtain ⟨G,at',e',lv',l',m',q1,q2,q3,q4,q5,q6,q7,q8,q9,q10,q11,q12⟩ := yC5 (rb := 0) hS (S.length + 1) 0 [] _ 0 (.sl true 0 []) (fun b => b < 1) hRS (Nat.zero_le _) (by omega) ⟨[],rfl,fun p hp => (by cases hp),.inl ⟨rfl,rfl⟩⟩ (by decide) (fun b hb => hb) (Nat.le_refl _) (by omega)
 rw [List.drop_zero] at q12
 have hpa : parse S = match xCh (S.length + 1) 0 [] S with
   | .bad r e => ([],S.length - r.length,e)
   | .ok (_,l) r => if r ≠ [] then ([],S.length - r.length,5) else if Go.Abs.Events.opn l l.length (l.length - 1) 0 = true then ([],0,11) else (l,0,0) := by
  unfold parse
  rw [if_neg (by omega)]
  rfl
 cases hp : xCh (S.length + 1) 0 [] S with
 | bad rr e1 =>
  rw [hp] at q12 hpa
  obtain ⟨rfl,he,hl⟩ := q12
  dsimp only at hpa
  rw [hpa,show S.length - rr.length = at' by omega]
  exact xZb hS q1 q2 he
 | ok p r =>
  obtain ⟨m1,l1⟩ := p
  rw [hp] at q12 hpa
  obtain ⟨rfl,hd,rfl,rfl,hl⟩ := q12
  dsimp only at hpa
  by_cases c : r = []
  ·rw [if_neg (fun q => q c)] at hpa
   have hge : S.length ≤ at' := by
    have := congrArg List.length hd
    rw [List.length_drop,c,List.length_nil] at this; omega
   obtain ⟨t,t1,t2,t3,t4⟩ := xFj _ _ _ _ _ _ _ hp
   rw [List.nil_append] at t3
   have hz : ∀ x ∈ l1,x.z = x.args.isEmpty := fun x hx => by rw [t3] at hx; exact xZj t _ x hx
   have hV : ∀ j,j < l1.length → Vn j (l1.getD j nd0) := fun j hj => by
    have hj' : j < t.sz := by rw [t3,t.nd_len] at hj; exact hj
    have := xXO t t1 0 j hj'
    rw [Nat.zero_add] at this
    rw [t3]; exact this
   have hpos : 0 < l1.length := by simpa using hl
   have hm := q8 rfl
   have hlm : l1.length ≤ m1 := by simpa using q6
   obtain ⟨ol,hol⟩ : ∃ ol,lv' = .own false ol 0 l1.length 6 := by
    rcases q5.form with q | q
    ·omega
    ·exact q
   subst hol
   obtain ⟨z6,_,hne⟩ := xNg 4 q5 hz
   obtain ⟨z5,_,_⟩ := xNg 3 q5 hz
   have h44 := yBd (fz := false) (fs := l1) (by omega) hV l1.length (l1.length - 1) 0 (by omega) (by omega) (by omega)
   have hemp : l1.isEmpty = false := by
    cases hq : l1 with
    | nil => exact absurd hq hne
    | cons _ _ => rfl
   cases ho : Go.Abs.Events.opn l1 l1.length (l1.length - 1) 0 with
   | true =>
    rw [ho] at h44 hpa
    rw [if_pos rfl] at hpa
    rw [hpa]
    exact xV1 hS q1 q2 hge hpos (by omega) z6 h44
   | false =>
    rw [ho] at h44 hpa
    rw [if_neg (by simp)] at hpa
    rw [hpa]
    dsimp only
    rw [hemp]
    exact yA9 hS q1 q2 hge hpos (by omega) z6 z5 h44
  ·rw [if_pos c] at hpa
   have h3 : 0 < r.length := List.length_pos_iff.2 c
   have hdl := congrArg List.length hd
   rw [List.length_drop] at hdl
   rw [hpa,show S.length - r.length = at' by omega]
   have hlt : at' < S.length := by omega
   exact xV0 hS q1 q2 hlt
end Go.Abs.Events
