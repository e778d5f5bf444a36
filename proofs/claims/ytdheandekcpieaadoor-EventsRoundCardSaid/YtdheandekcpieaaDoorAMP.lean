/- What a formula means at a time; a monitor answers it. -/
import Derived.Test.YtdheandekcpieaaDoorAME
import Derived.Test.YtdheandekcpieaaDoorAbsPars
import Derived.Lib.Join
import Derived.Test.YtdheandekcpieaaDoorAbsBun
namespace Go.Abs.Events
open Go Go.Abs
set_option linter.unusedSimpArgs false
set_option linter.unusedVariables false
def evF (n : Nd) (e : Ev) (A B was : Q) : Q :=
 if n.op = 1 then fun _ => true
 else if n.op = 2 then (if n.name = e.name ∧ n.args.length = e.args.length then fun j => mat j n.args e.args else fQ)
 else if n.op = 3 then fun j => tvs (n.args.getD 0 0) j == tvs (n.args.getD 1 0) j
 else if n.op = 4 then fun j => !A j
 else if n.op = 5 then fun j => A j && B j
 else if n.op = 6 then fun j => A j || B j
 else if n.op = 7 then exQ n.x.toNat A
 else if n.op = 8 then was
 else if n.op = 9 then fun j => B j || (A j && was j)
 else fun j => A j || was j
def yCc (n : Nd) (E : List Ev) (A B : Nat → Q) : Nat → Q
 | 0 => fQ
 | t + 1 => if n.op = 8 then A t else evF n (E.getD t ev0) (A t) (B t) (yCc n E A B t)
def sem (fs : List Nd) (E : List Ev) : Nat → Nat → Nat → Q
 | 0,_,_ => fQ
 | k + 1,i,t => evF (fs.getD i nd0) (E.getD t ev0) (sem fs E k (fs.getD i nd0).a.toNat t) (sem fs E k (fs.getD i nd0).b.toNat t) (yCc (fs.getD i nd0) E (sem fs E k (fs.getD i nd0).a.toNat) (sem fs E k (fs.getD i nd0).b.toNat) t)
section
variable {n : Nd} {e : Ev} {A B w : Q}
end
section
variable {fs : List Nd} {E : List Ev}
def S (fs : List Nd) (E : List Ev) (i t : Nat) : Q := sem fs E (i + 1) i t
def W (fs : List Nd) (E : List Ev) (i t : Nat) : Q := yCc (fs.getD i nd0) E (S fs E (fs.getD i nd0).a.toNat) (S fs E (fs.getD i nd0).b.toNat) t
end
end Go.Abs.Events
/- The text of a formula,in plain words; formulas as trees. -/
namespace Go.Abs.Events
set_option linter.unusedSimpArgs false
set_option linter.unusedVariables false
def spB (t : Int) : UInt8 := if t = 8 then 120 else if t = 9 then 121 else if t = 10 then 122 else UInt8.ofNat (48 + t.toNat)
def nmB (t : Int) : UInt8 := UInt8.ofNat (97 + t.toNat)
def wrp (op : Nat) (s : List UInt8) : List UInt8 := if op = 1 then s else 40 :: (s ++ [41])
def hdW (n : Nd) : List (List UInt8) := opB n.op :: ((if n.op = 2 then [[nmB n.name]] else []) ++ ((if n.op = 7 then [[spB n.x]] else []) ++ n.args.map fun t => [spB t]))
inductive Tr where
 | t0 (n : Nd)
 | t1 (n : Nd) (a : Tr)
 | t2 (n : Nd) (a b : Tr)
def Tr.sz : Tr → Nat
 | .t0 _ => 1
 | .t1 _ a => a.sz + 1
 | .t2 _ a b => a.sz + b.sz + 1
def Tr.tt : Tr → List UInt8
 | .t0 n => wrp n.op (Lib.join (hdW n ++ []) [32])
 | .t1 n a => wrp n.op (Lib.join (hdW n ++ [a.tt]) [32])
 | .t2 n a b => wrp n.op (Lib.join (hdW n ++ [a.tt,b.tt]) [32])
def Tr.nd (p : Nat) : Tr → List Nd
 | .t0 n => [⟨n.op,n.name,n.args.isEmpty,n.args,n.x,0,0⟩]
 | .t1 n a => a.nd p ++ [⟨n.op,n.name,n.args.isEmpty,n.args,n.x,((p + a.sz : Nat) : Int) - 1,0⟩]
 | .t2 n a b => a.nd p ++ b.nd (p + a.sz) ++ [⟨n.op,n.name,n.args.isEmpty,n.args,n.x,((p + a.sz : Nat) : Int) - 1,((p + a.sz + b.sz : Nat) : Int) - 1⟩]
structure Hd (n : Nd) : Prop where
 op : 1 ≤ n.op ∧ n.op ≤ 10
 nm : 0 ≤ n.name ∧ n.name ≤ 7
 nm0 : n.op ≠ 2 → n.name = 0
 x : n.op = 7 → 8 ≤ n.x ∧ n.x ≤ 10
 x0 : n.op ≠ 7 → n.x = 0
 lo : flo n.op ≤ n.args.length
 hi : n.args.length ≤ fhi n.op
 ar : ∀ t ∈ n.args,0 ≤ t ∧ t ≤ 10
def Tr.ok : Tr → Prop
 | .t0 n => Hd n ∧ chn n.op = 0
 | .t1 n a => Hd n ∧ chn n.op = 1 ∧ a.ok
 | .t2 n a b => Hd n ∧ chn n.op = 2 ∧ a.ok ∧ b.ok
theorem Tr.nd_len : ∀ (t : Tr) (p : Nat),(t.nd p).length = t.sz
 | .t0 n,p => rfl
 | .t1 n a,p => by simp [Tr.nd,Tr.sz,a.nd_len p]
 | .t2 n a b,p => by simp [Tr.nd,Tr.sz,a.nd_len p,b.nd_len]; omega
theorem Tr.sz_pos : ∀ t : Tr,1 ≤ t.sz
 | .t0 n => Nat.le_refl _
 | .t1 n a => by unfold Tr.sz; omega
 | .t2 n a b => by unfold Tr.sz; omega
theorem xDL {p : UInt8 → Bool} {c : UInt8} (e : Nat) (r : List UInt8) (h : p c = true) : xF5 p e (c :: r) = .ok c (c :: r) := if_pos h
theorem xCI (c : UInt8) (r : List UInt8) : xFs c (c :: r) = .ok () r := by
 unfold xFs
 rw [xDL _ _ (by simp)]; rfl
theorem xYr {t : Int} (h0 : 0 ≤ t) (h1 : t ≤ 10) (r : List UInt8) : xRc splB (32 :: spB t :: r) = .ok t.toNat r := by
 have h : t = 0 ∨ t = 1 ∨ t = 2 ∨ t = 3 ∨ t = 4 ∨ t = 5 ∨ t = 6 ∨ t = 7 ∨ t = 8 ∨ t = 9 ∨ t = 10 := by omega
 rcases h with rfl | rfl | rfl | rfl | rfl | rfl | rfl | rfl | rfl | rfl | rfl <;> rfl
theorem xYs {t : Int} (h0 : 0 ≤ t) (h1 : t ≤ 7) (r : List UInt8) : xRc nmsB (32 :: nmB t :: r) = .ok t.toNat r := by
 have h : t = 0 ∨ t = 1 ∨ t = 2 ∨ t = 3 ∨ t = 4 ∨ t = 5 ∨ t = 6 ∨ t = 7 := by omega
 rcases h with rfl | rfl | rfl | rfl | rfl | rfl | rfl | rfl <;> rfl
theorem xYt {t : Int} (h0 : 8 ≤ t) (h1 : t ≤ 10) (r : List UInt8) : xRc vrsB (32 :: spB t :: r) = .ok (t.toNat - 8) r := by
 have h : t = 8 ∨ t = 9 ∨ t = 10 := by omega
 rcases h with rfl | rfl | rfl <;> rfl
def xXl (r : List UInt8) : Prop := ∀ c,r.head? = some c → smB c = false
theorem yCd {w r : List UInt8} (hw : ∀ c ∈ w,smB c = true) (hr : xXl r) : (w ++ r).takeWhile smB = w := by
 induction w with
 | nil =>
  cases r with
  | nil => rfl
  | cons c r => rw [List.nil_append,List.takeWhile_cons,hr c rfl]; rfl
 | cons c w ih =>
  rw [List.cons_append,List.takeWhile_cons,hw c List.mem_cons_self,if_pos rfl,ih fun d hd => hw d (List.mem_cons_of_mem _ hd)]
theorem xQp {op : Nat} (h1 : 1 ≤ op) (h2 : op ≤ 10) {r : List UInt8} (hr : xXl r) : xEZ (decide (op ≠ 1)) (opB op ++ r) = .ok op r := by
 have key : ∀ w : List UInt8,w ≠ [] → (∀ c ∈ w,smB c = true) → xEZ (decide (op ≠ 1)) (w ++ r) = match pop w (decide (op ≠ 1)) with | some op => .ok op r | none => .bad (w ++ r) 6 := by
  intro w hne hw
  unfold xEZ
  obtain ⟨c,w',rfl⟩ := List.exists_cons_of_ne_nil hne
  have hc := hw c List.mem_cons_self
  have hp : xCl (c :: w' ++ r) = c :: w' := by
   unfold xCl
   rw [if_neg (by intro e; cases e; cases hc),yCd hw hr]
  rw [List.cons_append] at hp ⊢
  rw [xDL _ _ (by simp [hc])]
  show (match pop (xCl (c :: (w' ++ r))) _ with | some op => PR.ok op ((c :: (w' ++ r)).drop (xCl (c :: (w' ++ r))).length) | none => _) = _
  rw [hp,show (c :: (w' ++ r)).drop (c :: w').length = r by rw [← List.cons_append,List.drop_left' rfl]]
 have h : op = 1 ∨ op = 2 ∨ op = 3 ∨ op = 4 ∨ op = 5 ∨ op = 6 ∨ op = 7 ∨ op = 8 ∨ op = 9 ∨ op = 10 := by omega
 by_cases h3 : op = 3
 ·subst h3; rfl
 rw [key (opB op) (by rcases h with rfl | rfl | rfl | rfl | rfl | rfl | rfl | rfl | rfl | rfl <;> decide) (by rcases h with rfl | rfl | rfl | rfl | rfl | rfl | rfl | rfl | rfl | rfl <;> first | decide | exact absurd rfl h3)]
 rcases h with rfl | rfl | rfl | rfl | rfl | rfl | rfl | rfl | rfl | rfl <;> rfl
end Go.Abs.Events
/- The parser reads a tree's text. -/
namespace Go.Abs.Events
set_option linter.unusedSimpArgs false
set_option linter.unusedVariables false
def jt (T : List (List UInt8)) : List UInt8 := Lib.joinTail [32] T
def aT (us : List Int) : List UInt8 := us.flatMap fun t => [32,spB t]
theorem xXm : jt [] = [] := rfl
theorem xT4 (a : List UInt8) : jt [a] = 32 :: a := by simp [jt,Lib.joinTail]
theorem xXn (a b : List UInt8) : jt [a,b] = 32 :: (a ++ 32 :: b) := by simp [jt,Lib.joinTail]
theorem xQq (a b : List (List UInt8)) : jt (a ++ b) = jt a ++ jt b := by simp [jt,Lib.joinTail]
theorem xT5 : ∀ us : List Int,jt (us.map fun t => [spB t]) = aT us
 | [] => rfl
 | t :: us => by
  rw [List.map_cons,show ([spB t] :: us.map fun t => [spB t]) = [[spB t]] ++ us.map fun t => [spB t] from rfl,xQq,xT5 us,xT4]; rfl
theorem xCT (n : Nd) (T : List (List UInt8)) : Lib.join (hdW n ++ T) [32] = opB n.op ++ ((if n.op = 2 then [32,nmB n.name] else []) ++ ((if n.op = 7 then [32,spB n.x] else []) ++ (aT n.args ++ jt T))) := by
 unfold hdW
 rw [List.cons_append,Lib.join_cons]
 congr 1
 show jt _ = _
 rw [xQq,xQq,xQq,xT5,List.append_assoc,List.append_assoc]
 congr 1
 ·split <;> rfl
 congr 1
 split <;> rfl
theorem xDo {c : UInt8} (h : smB c = false) (r : List UInt8) : xXl (c :: r) := by intro d hd; cases hd; exact h
theorem xT6 (t : Int) (us : List Int) : aT (t :: us) = 32 :: spB t :: aT us := rfl
theorem xQr : ∀ (us : List Int) (most least : Nat) (r : List UInt8),least ≤ us.length → us.length ≤ most → (us.length < most → r.head? = some 41) → (∀ t ∈ us,0 ≤ t ∧ t ≤ 10) → xDF most least (aT us ++ r) = .ok us r
 | [],0,least,r,_,_,_,_ => rfl
 | [],k + 1,least,r,h1,_,h3,_ => by
  unfold xDF
  have := h3 (by simp)
  rw [if_pos ⟨by simpa using h1,this⟩]; rfl
 | t :: us,0,least,r,_,h2,_,_ => by simp at h2
 | t :: us,k + 1,least,r,h1,h2,h3,h4 => by
  have ht := h4 t List.mem_cons_self
  unfold xDF
  rw [xT6,List.cons_append,List.cons_append,if_neg (by rintro ⟨_,e⟩; cases e),xYr ht.1 ht.2]
  show (xDF k (least - 1) (aT us ++ r)).bind _ = _
  rw [xQr us k (least - 1) r (by simp at h1; omega) (by simpa using h2) (fun h => h3 (by simpa using h)) fun u hu => h4 u (List.mem_cons_of_mem _ hu)]
  show PR.ok _ _ = _
  rw [Int.toNat_of_nonneg ht.1]
def Nd.w (n : Nd) (a b : Int) : Nd := ⟨n.op,n.name,n.args.isEmpty,n.args,n.x,a,b⟩
def xIY (k m : Nat) (l : List Nd) (n : Nd) (inside : Bool) (r : List UInt8) : PR (Nat × List Nd) :=
 (if 1 ≤ chn n.op then (xFs 32 r).bind fun _ r => xBV k m l r else .ok (m,l) r).bind fun p r =>
 (if chn n.op = 2 then (xFs 32 r).bind fun _ r => xBV k p.1 p.2 r else .ok p r).bind fun q r =>
 (if inside = true then xFs 41 r else .ok () r).bind fun _ r =>
 .ok (q.1,q.2 ++ [n.w (if 1 ≤ chn n.op then (p.2.length : Int) - 1 else 0) (if chn n.op = 2 then (q.2.length : Int) - 1 else 0)]) r
theorem xLi {n : Nd} (hd : Hd n) (h1 : n.op ≠ 1) {k many : Nat} (hm : many < 64) (l : List Nd) {K : List UInt8} (hK : ∀ c,K.head? = some c → c = 32) (hK0 : chn n.op = 0 → K = []) (tl : List UInt8) :
  xBV (k + 1) many l (40 :: (opB n.op ++ ((if n.op = 2 then [32,nmB n.name] else []) ++ ((if n.op = 7 then [32,spB n.x] else []) ++ (aT n.args ++ K))) ++ 41 :: tl)) = xIY k (many + 1) l n true (K ++ 41 :: tl) := by
 have hKe : xXl (K ++ 41 :: tl) := by
  intro c hc
  cases K with
  | nil => cases hc; rfl
  | cons d K => have h := hK d rfl; subst h; cases hc; rfl
 have hAe : xXl (aT n.args ++ (K ++ 41 :: tl)) := by
  cases h : n.args with
  | nil => exact hKe
  | cons t us => exact xDo rfl _
 have hpa := xQr n.args (fhi n.op) (flo n.op) (K ++ 41 :: tl) hd.lo hd.hi (fun h => by
  have : chn n.op = 0 := by
   unfold fhi at h
   split at h
   ·rename_i q
    rcases q with q | q <;> rw [q] <;> rfl
   ·omega
  rw [hK0 this]; rfl) hd.ar
 unfold xBV
 rw [xDL _ _ (by decide)]
 show (if many = 64 then _ else _) = _
 rw [if_neg (by omega)]
 have hpn : ∀ r,xXl r → xEZ ((40 : UInt8) == 40) (opB n.op ++ r) = .ok n.op r := fun r hr => by
  have := xQp hd.op.1 hd.op.2 hr
  rwa [decide_eq_true h1] at this
 by_cases h2 : n.op = 2
 ·have h7 : n.op ≠ 7 := by omega
  rw [if_pos h2,if_neg h7,List.nil_append]
  show (xEZ ((40 : UInt8) == 40) (opB n.op ++ ([32,nmB n.name] ++ (aT n.args ++ K)) ++ 41 :: tl)).bind _ = _
  rw [show opB n.op ++ ([32,nmB n.name] ++ (aT n.args ++ K)) ++ 41 :: tl = opB n.op ++ (32 :: nmB n.name :: (aT n.args ++ (K ++ 41 :: tl))) by simp,hpn _ (xDo rfl _)]
  show (if n.op = 2 then _ else _ : PR Nat).bind _ = _
  rw [if_pos h2,xYs hd.nm.1 hd.nm.2]
  show (if n.op = 7 then _ else _ : PR Nat).bind _ = _
  rw [if_neg h7]
  show (xDF (fhi n.op) (flo n.op) (aT n.args ++ (K ++ 41 :: tl))).bind _ = _
  rw [hpa]
  unfold xIY Nd.w
  rw [Int.toNat_of_nonneg hd.nm.1,hd.x0 h7]
  rfl
 by_cases h7 : n.op = 7
 ·have hx := hd.x h7
  rw [if_neg h2,if_pos h7,List.nil_append]
  show (xEZ ((40 : UInt8) == 40) (opB n.op ++ ([32,spB n.x] ++ (aT n.args ++ K)) ++ 41 :: tl)).bind _ = _
  rw [show opB n.op ++ ([32,spB n.x] ++ (aT n.args ++ K)) ++ 41 :: tl = opB n.op ++ (32 :: spB n.x :: (aT n.args ++ (K ++ 41 :: tl))) by simp,hpn _ (xDo rfl _)]
  show (if n.op = 2 then _ else _ : PR Nat).bind _ = _
  rw [if_neg h2]
  show (if n.op = 7 then _ else _ : PR Nat).bind _ = _
  rw [if_pos h7,xYt hx.1 hx.2]
  show (xDF (fhi n.op) (flo n.op) (aT n.args ++ (K ++ 41 :: tl))).bind _ = _
  rw [hpa]
  unfold xIY Nd.w
  have e : ((8 + (n.x.toNat - 8) : Nat) : Int) = n.x := by omega
  rw [hd.nm0 h2,e]
  rfl
 ·rw [if_neg h2,if_neg h7,List.nil_append,List.nil_append]
  show (xEZ ((40 : UInt8) == 40) (opB n.op ++ (aT n.args ++ K) ++ 41 :: tl)).bind _ = _
  rw [show opB n.op ++ (aT n.args ++ K) ++ 41 :: tl = opB n.op ++ (aT n.args ++ (K ++ 41 :: tl)) by simp,hpn _ hAe]
  show (if n.op = 2 then _ else _ : PR Nat).bind _ = _
  rw [if_neg h2]
  show (if n.op = 7 then _ else _ : PR Nat).bind _ = _
  rw [if_neg h7]
  show (xDF (fhi n.op) (flo n.op) (aT n.args ++ (K ++ 41 :: tl))).bind _ = _
  rw [hpa]
  unfold xIY Nd.w
  rw [hd.nm0 h2,hd.x0 h7]
  rfl
theorem xRq {n : Nd} (hd : Hd n) (h1 : n.op = 1) {k many : Nat} (hm : many < 64) (l : List Nd) {tl : List UInt8} (ht : xXl tl) :
  xBV (k + 1) many l (opB 1 ++ tl) = xIY k (many + 1) l n false tl := by
 have hpn := xQp (op := 1) (Nat.le_refl _) (by decide) ht
 have ha : n.args = [] := by
  have := hd.hi
  rw [h1] at this
  exact List.eq_nil_of_length_eq_zero (Nat.le_zero.1 this)
 unfold xBV
 show ((xF5 _ 2 (116 :: ([114,117,101] ++ tl))).bind _) = _
 rw [xDL _ _ (by decide)]
 show (if many = 64 then _ else _) = _
 rw [if_neg (by omega)]
 show (xEZ (decide ((1 : Nat) ≠ 1)) (opB 1 ++ tl)).bind _ = _
 rw [hpn]
 unfold xIY Nd.w
 rw [h1,hd.nm0 (by omega),hd.x0 (by omega),ha]
 rfl
theorem xHh : ∀ (t : Tr),t.ok → ∀ (k many : Nat) (l : List Nd) (tl : List UInt8),t.sz ≤ k → many + t.sz ≤ 64 → xXl tl → xBV k many l (t.tt ++ tl) = .ok (many + t.sz,l ++ t.nd l.length) tl
 | .t0 n,⟨hd,hc⟩,k,many,l,tl,hk,hm,ht => by
  obtain ⟨k,rfl⟩ : ∃ k',k = k' + 1 := ⟨k - 1,by unfold Tr.sz at hk; omega⟩
  unfold Tr.sz at hm ⊢
  unfold Tr.tt Tr.nd
  by_cases h1 : n.op = 1
  ·have ha : n.args = [] := by
    have := hd.hi
    rw [h1] at this
    exact List.eq_nil_of_length_eq_zero (Nat.le_zero.1 this)
   unfold wrp
   rw [if_pos h1,xCT,if_neg (by omega),if_neg (by omega),ha,h1]
   show xBV (k + 1) many l (opB 1 ++ tl) = _
   rw [xRq hd h1 (by omega) l ht]
   unfold xIY Nd.w
   rw [if_neg (by omega),h1]
   show PR.ok _ _ = _
   rw [ha]; rfl
  ·unfold wrp
   rw [if_neg h1,xCT,xXm,List.cons_append,List.append_assoc]
   have := xLi hd h1 (k := k) (many := many) (by omega) l (K := []) (by intro c h; cases h) (fun _ => rfl) tl
   rw [show [41] ++ tl = 41 :: tl from rfl,this]
   unfold xIY Nd.w
   simp [PR.bind,hc,xCI]
 | .t1 n a,⟨hd,hc,ha⟩,k,many,l,tl,hk,hm,ht => by
  obtain ⟨k,rfl⟩ : ∃ k',k = k' + 1 := ⟨k - 1,by unfold Tr.sz at hk; omega⟩
  unfold Tr.sz at hk hm ⊢
  have h1 : n.op ≠ 1 := by intro e; rw [e] at hc; cases hc
  have hap := a.sz_pos
  unfold Tr.tt Tr.nd wrp
  rw [if_neg h1,xCT,xT4,List.cons_append,List.append_assoc]
  have := xLi hd h1 (k := k) (many := many) (by omega) l (K := 32 :: a.tt) (by intro c h; cases h; rfl) (fun h => by omega) tl
  rw [show [41] ++ tl = 41 :: tl from rfl,this]
  unfold xIY Nd.w
  rw [if_pos (by omega),List.cons_append,xCI]
  show ((xBV k (many + 1) l (a.tt ++ 41 :: tl)).bind _) = _
  rw [xHh a ha k (many + 1) l (41 :: tl) (by omega) (by omega) (xDo rfl _)]
  simp [PR.bind,hc,xCI,Tr.nd_len]
  omega
 | .t2 n a b,⟨hd,hc,ha,hb⟩,k,many,l,tl,hk,hm,ht => by
  obtain ⟨k,rfl⟩ : ∃ k',k = k' + 1 := ⟨k - 1,by unfold Tr.sz at hk; omega⟩
  unfold Tr.sz at hk hm ⊢
  have h1 : n.op ≠ 1 := by intro e; rw [e] at hc; cases hc
  have hap := a.sz_pos
  have hbp := b.sz_pos
  unfold Tr.tt Tr.nd wrp
  rw [if_neg h1,xCT,xXn,List.cons_append,List.append_assoc]
  have := xLi hd h1 (k := k) (many := many) (by omega) l (K := 32 :: (a.tt ++ 32 :: b.tt)) (by intro c h; cases h; rfl) (fun h => by omega) tl
  rw [show [41] ++ tl = 41 :: tl from rfl,this]
  unfold xIY Nd.w
  rw [if_pos (by omega),List.cons_append,xCI]
  show ((xBV k (many + 1) l ((a.tt ++ 32 :: b.tt) ++ 41 :: tl)).bind _) = _
  rw [List.append_assoc,List.cons_append,xHh a ha k (many + 1) l (32 :: (b.tt ++ 41 :: tl)) (by omega) (by omega) (xDo rfl _)]
  show ((if chn n.op = 2 then _ else _ : PR (Nat × List Nd)).bind _) = _
  rw [if_pos hc,xCI]
  show ((xBV k (many + 1 + a.sz) (l ++ a.nd l.length) (b.tt ++ 41 :: tl)).bind _) = _
  rw [xHh b hb k _ _ (41 :: tl) (by omega) (by omega) (xDo rfl _)]
  simp [PR.bind,hc,xCI,Tr.nd_len]
  omega
theorem xVZ {t : Tr} (h : t.ok) (hz : t.sz ≤ 64) (hl : t.tt.length ≤ 4096) (hk : t.sz ≤ t.tt.length + 1) : parse t.tt = if opn (t.nd 0) (t.nd 0).length ((t.nd 0).length - 1) 0 = true then ([],0,11) else (t.nd 0,0,0) := by
 unfold parse
 rw [if_neg (by omega)]
 have := xHh t h (t.tt.length + 1) 0 [] [] hk (by omega) (by intro c hc; cases hc)
 rw [List.append_nil] at this
 rw [this]
 rfl
abbrev zS (b : List UInt8) : AV := .str ⟨b.toArray⟩
def sts (l : List (List UInt8)) : List AV := l.map zS
theorem xAY (l : List (List UInt8)) : (sts l).length = l.length := by simp [sts]
theorem xBi (l : List (List UInt8)) : List.take l.length (sts l) = sts l := List.take_of_length_le (by rw [xAY]; omega)
theorem xCt (a b : List (List UInt8)) : sts a ++ sts b = sts (a ++ b) := by simp [sts]
theorem xFH (a : List (List UInt8)) (b : List UInt8) : sts a ++ [zS b] = sts (a ++ [b]) := by simp [sts]
def xXo (H : Heap) (v : AV) (lo hi : Option AV) : Option (AV × Heap) := match v with
 | .str s => (xBt s.size lo hi none).map fun (l,h) => (.str (s.extract l h),H)
 | _ => none
theorem xBu {R : Rec} {F : List AV} {H : Heap} (x : Arg) (lo hi : Option Arg) : xAa R F H (.sslice x lo hi) = xXo H (opv F x) (lo.map (opv F)) (hi.map (opv F)) := rfl
def xRr (H : Heap) (v w : AV) : Option (AV × Heap) := match v,w with
 | .str s,.str t => if s.size + t.size ≤ 9223372036854775807 then some (.str ⟨⟨s.data.toList ++ t.data.toList⟩⟩,H) else none
 | _,_ => none
theorem xIG {R : Rec} {F : List AV} {H : Heap} (x y : Arg) : xAa R F H (.sadd x y) = xRr H (opv F x) (opv F y) := rfl
theorem xEQ {a b : List UInt8} (H : Heap) (ha : a.length ≤ 1000000) (hb : b.length ≤ 1000000) : xRr H (zS a) (zS b) = some (zS (a ++ b),H) := by
 unfold xRr
 simp only
 rw [if_pos (by show a.toArray.size + b.toArray.size ≤ _; simp; omega)]
theorem xXp {t : Int} (H : Heap) (h0 : 0 ≤ t) (h1 : t ≤ 10) : xXo H (.str ⟨#[48,49,50,51,52,53,54,55,120,121,122]⟩) (some (.int .i64 t)) (some (.int .i64 (t + 1))) = some (zS [spB t],H) := by
 have h : t = 0 ∨ t = 1 ∨ t = 2 ∨ t = 3 ∨ t = 4 ∨ t = 5 ∨ t = 6 ∨ t = 7 ∨ t = 8 ∨ t = 9 ∨ t = 10 := by omega
 rcases h with rfl | rfl | rfl | rfl | rfl | rfl | rfl | rfl | rfl | rfl | rfl <;> rfl
theorem xXq {t : Int} (H : Heap) (h0 : 0 ≤ t) (h1 : t ≤ 7) : xXo H (.str ⟨#[97,98,99,100,101,102,103,104]⟩) (some (.int .i64 t)) (some (.int .i64 (t + 1))) = some (zS [nmB t],H) := by
 have h : t = 0 ∨ t = 1 ∨ t = 2 ∨ t = 3 ∨ t = 4 ∨ t = 5 ∨ t = 6 ∨ t = 7 := by omega
 rcases h with rfl | rfl | rfl | rfl | rfl | rfl | rfl | rfl <;> rfl
section
variable {s5 s7 s8 s19 s20 s21 : AV} {ts : List Int} {z : Bool} {B : Nat}
set_option maxHeartbeats 4000000 in
theorem xE6 (har : ∀ t ∈ ts,0 ≤ t ∧ t ≤ 10) (hl : ts.length ≤ 100) : ∀ k i,i + k = ts.length → ∀ (G : Heap) (ow m : Nat) (W : List (List UInt8)),B ≤ ow → B ≤ G.length → W.length = m → m + k ≤ 1000 → G[ow]? = some (.cells false false (sts W)) →
  ∃ (G' : Heap) (ow' : Nat),L.loop xNj xVX ⟨xNk s5 s7 s8 (.own false ow 0 m 1) s19 s20 s21 (.sl z ts.length (xAJ ts)) (.int .i64 (ts.length : Nat)) (.int .i64 (i : Nat)),G⟩ =
   some (.exit 2,⟨xNk s5 s7 s8 (.own false ow' 0 (m + k) 1) s19 s20 s21 (.sl z ts.length (xAJ ts)) (.int .i64 (ts.length : Nat)) (.int .i64 (ts.length : Nat)),G'⟩) ∧
   B ≤ ow' ∧ G'[ow']? = some (.cells false false (sts (W ++ (ts.drop i).map fun t => [spB t]))) ∧ Kp B G G' := by
 intro k
 induction k with
 | zero =>
  intro i hi G ow m W hB hG hW hm go
  obtain rfl : i = ts.length := by omega
  refine ⟨G,ow,?_,hB,by simpa using go,.refl _ _⟩
  rw [xXc]
  simp (maxSteps := 30000000) (disch := first|exact D5|fail) only [xQi,WB,↓reduceIte,xFE]
 | succ k ih =>
  intro i hi G ow m W hB hG hW hm go
  have hlt : i < ts.length := by omega
  have hltI : ((i : Nat) : Int) < (ts.length : Nat) := by omega
  have em : ts.drop i = ts.getD i 0 :: ts.drop (i + 1) := xDp hlt
  have hm' : ts.getD i 0 ∈ ts := by rw [List.getD_eq_getElem?_getD,List.getElem?_eq_getElem hlt]; exact List.getElem_mem hlt
  have hr := har _ hm'
  rw [em]
  generalize hN : ts.getD i 0 = t at *
  have lo := xAv go
  have hnl := xAY W
  have hnt := xBi W
  have happ := xFH W [spB t]
  rw [hW] at hnl hnt
  obtain ⟨G',ow',e1,b1,g1,k1⟩ := ih (i + 1) (by omega) (G.set ow .dead ++ [.cells false false (sts (W ++ [[spB t]]))]) G.length (m + 1) (W ++ [[spB t]]) (by omega) (by simp; omega) (by simp [hW]) (by omega)
   (by rw [List.getElem?_append_right (by simp),List.length_set,Nat.sub_self]; rfl)
  refine ⟨G',ow',?_,b1,by simpa using g1,((Kp.set hB).trans (Kp.appB _ _ (by simpa using hG))).trans k1⟩
  have hs := fun H => xXp H hr.1 hr.2
  rw [show m + (k + 1) = m + 1 + k by omega]
  generalize sts (W ++ [[spB t]]) = L2 at *
  generalize sts W = L1 at *
  rw [xXc]
  simp (maxSteps := 30000000) (disch := first|exact D5|fail) only [xQi,WB,hltI,↓reduceIte,W2,hN,xBu,hs,AV.cells,AV.isCell,go,Nat.reduceBEq,hnt,happ,xFE,e1]
end
theorem xYu (op : Nat) : AV.str (fnm op) = zS (opB op) := by
 unfold fnm opB
 repeat' split
 all_goals rfl
def xAG (n : Nd) : List Nat := if chn n.op = 2 then [n.a.toNat,n.b.toNat] else if chn n.op = 1 then [n.a.toNat] else []
theorem xC3 (n : Nd) : (xAG n).length = chn n.op := by
 unfold xAG
 rcases xAK n.op with h | h | h <;> simp [h]
def tx (fs : List Nd) : Nat → Nat → List UInt8
 | 0,_ => []
 | k + 1,i => wrp (fs.getD i nd0).op (Lib.join (hdW (fs.getD i nd0) ++ (xAG (fs.getD i nd0)).map (tx fs k)) [32])
def txt (fs : List Nd) (i : Nat) : List UInt8 := tx fs (i + 1) i
theorem xLj {n : Nd} {i : Nat} (h : Vn i n) : ∀ j ∈ xAG n,j < i := by
 intro j hj
 have ha := h.ca
 have hb := h.cb
 unfold xAG at hj
 split at hj
 ·rename_i e
  have := ha (by omega)
  have := hb e
  rcases List.mem_cons.1 hj with rfl | hj
  ·omega
  ·obtain rfl := List.mem_singleton.1 hj; omega
 ·split at hj
  ·rename_i e
   have := ha (by omega)
   obtain rfl := List.mem_singleton.1 hj; omega
  ·cases hj
theorem xYv {fs : List Nd} (hV : ∀ j,j < fs.length → Vn j (fs.getD j nd0)) : ∀ i,i < fs.length → ∀ k,i < k → tx fs k i = txt fs i := by
 intro i
 induction i using Nat.strongRecOn with
 | _ i ih =>
  intro hi k hk
  obtain ⟨k,rfl⟩ : ∃ k',k = k' + 1 := ⟨k - 1,by omega⟩
  unfold txt tx
  congr 3
  refine List.map_congr_left fun j hj => ?_
  have hj' := xLj (hV i hi) j hj
  rw [ih j hj' (by omega) k (by omega),ih j hj' (by omega) i (by omega)]
theorem xNB {fs : List Nd} (hV : ∀ j,j < fs.length → Vn j (fs.getD j nd0)) {i : Nat} (hi : i < fs.length) : txt fs i = wrp (fs.getD i nd0).op (Lib.join (hdW (fs.getD i nd0) ++ (xAG (fs.getD i nd0)).map (txt fs)) [32]) := by
 conv => lhs; unfold txt tx
 congr 3
 exact List.map_congr_left fun j hj => xYv hV j (by have := xLj (hV i hi) j hj; omega) i (xLj (hV i hi) j hj)
inductive Bk (os : List Nat) : Nat → List Nat → Prop
 | nil : Bk os 0 []
 | snoc {i j : Nat} {S : List Nat} (h : Bk os i S) (hj : i ≤ j) (hs : os.getD j 0 = j + 1 - i) : Bk os (j + 1) (S ++ [j])
theorem Bk.inv {os : List Nat} {i : Nat} {S : List Nat} (h : Bk os i S) : (i = 0 ∧ S = []) ∨ ∃ j i' S',i = j + 1 ∧ S = S' ++ [j] ∧ Bk os i' S' ∧ i' ≤ j ∧ os.getD j 0 = j + 1 - i' := by
 cases h with
 | nil => exact .inl ⟨rfl,rfl⟩
 | snoc h hj hs => exact .inr ⟨_,_,_,rfl,rfl,h,hj,hs⟩
theorem Bk.lt {os : List Nat} {i : Nat} {S : List Nat} (h : Bk os i S) : ∀ j ∈ S,j < i := by
 induction h with
 | nil => intro j hj; cases hj
 | snoc h hj hs ih =>
  intro k hk
  rcases List.mem_append.1 hk with hk | hk
  ·have := ih k hk; omega
  ·obtain rfl := List.mem_singleton.1 hk; omega
theorem Bk.len {os : List Nat} {i : Nat} {S : List Nat} (h : Bk os i S) : S.length ≤ i := by
 induction h with
 | nil => simp
 | snoc h hj hs ih => simp; omega
theorem Bk.app {os : List Nat} {i : Nat} {S : List Nat} (x : Nat) (h : Bk os i S) : i ≤ os.length → Bk (os ++ [x]) i S := by
 induction h with
 | nil => exact fun _ => .nil
 | @snoc i j S h hj hs ih =>
  intro hl
  refine .snoc (ih (by omega)) hj ?_
  rw [List.getD_eq_getElem?_getD,List.getElem?_append_left (by omega),← List.getD_eq_getElem?_getD]
  exact hs
theorem Bk.top {os : List Nat} {i : Nat} {S : List Nat} (h : Bk os i S) (hi : 0 < i) : ∃ S',S = S' ++ [i - 1] ∧ Bk os (i - os.getD (i - 1) 0) S' ∧ os.getD (i - 1) 0 ≤ i ∧ 0 < os.getD (i - 1) 0 := by
 rcases h.inv with ⟨rfl,rfl⟩ | ⟨j,i',S',rfl,rfl,h',hj,hs⟩
 ·omega
 ·refine ⟨S',by simp,?_,?_,?_⟩
  ·rw [Nat.add_sub_cancel,hs,show j + 1 - (j + 1 - i') = i' by omega]; exact h'
  ·rw [Nat.add_sub_cancel,hs]; omega
  ·rw [Nat.add_sub_cancel,hs]; omega
theorem xCo (os : List Nat) (x : Nat) : (os ++ [x]).getD os.length 0 = x := by
 rw [List.getD_eq_getElem?_getD,List.getElem?_append_right (Nat.le_refl _),Nat.sub_self]; rfl
theorem Bk.step {os : List Nat} {S : List Nat} {n : Nd} (h : Bk os os.length S) (hz : szN n os ≠ 0) :
  ∃ S',S = S' ++ xAG n ∧ Bk (os ++ [szN n os]) (os.length + 1) (S' ++ [os.length]) ∧ szN n os = 1 + ((xAG n).map fun j => os.getD j 0).sum := by
 rcases xAK n.op with hc | hc | hc
 ·have hk : xAG n = [] := by unfold xAG; rw [hc]; rfl
  have hs : szN n os = 1 := by
   unfold szN at hz ⊢
   rw [if_pos hc] at hz ⊢
   split at hz
   ·rename_i q; rw [if_pos q]
   ·exact absurd rfl hz
  refine ⟨S,by rw [hk,List.append_nil],.snoc (h.app _ (Nat.le_refl _)) (Nat.le_refl _) ?_,by rw [hk,hs]; rfl⟩
  rw [xCo,hs]; omega
 ·have hs0 := hz
  unfold szN at hz
  rw [if_neg (by omega)] at hz
  split at hz
  ·exact absurd rfl hz
  rename_i h1
  rw [not_or] at h1
  split at hz
  case isFalse => exact absurd rfl hz
  rename_i h2
  obtain ⟨S',rfl,h',hle,hpos⟩ := h.top (by omega)
  have hk : xAG n = [os.length - 1] := by unfold xAG; rw [if_neg (by omega),if_pos hc,h2.1]; rfl
  have hs : szN n os = 1 + os.getD (os.length - 1) 0 := by
   unfold szN
   rw [if_neg (by omega),if_neg (by rw [not_or]; exact h1),if_pos hc,if_pos h2]
  refine ⟨S',by rw [hk],.snoc (h'.app _ (by omega)) (by omega) ?_,by rw [hk,hs]; rfl⟩
  rw [xCo,hs]; omega
 ·unfold szN at hz
  rw [if_neg (by omega)] at hz
  split at hz
  ·exact absurd rfl hz
  rename_i h1
  rw [not_or] at h1
  rw [if_neg (by omega)] at hz
  split at hz
  ·exact absurd rfl hz
  rename_i h2
  rw [not_or] at h2
  split at hz
  case isFalse => exact absurd rfl hz
  rename_i h3
  obtain ⟨S',rfl,h',hle,hpos⟩ := h.top (by omega)
  obtain ⟨S'',rfl,h'',hle',hpos'⟩ := h'.top (by omega)
  have hk : xAG n = [os.length - os.getD (os.length - 1) 0 - 1,os.length - 1] := by unfold xAG; rw [if_pos hc,h3.1,h3.2]; rfl
  have hs : szN n os = 1 + os.getD (os.length - 1) 0 + os.getD (os.length - os.getD (os.length - 1) 0 - 1) 0 := by
   unfold szN
   rw [if_neg (by omega),if_neg (by rw [not_or]; exact h1),if_neg (by omega),if_neg (by rw [not_or]; exact h2),if_pos h3]
  refine ⟨S'',by rw [hk]; simp,.snoc (h''.app _ (by omega)) (by omega) ?_,by rw [hk,hs]; simp; omega⟩
  rw [xCo,hs]; omega
end Go.Abs.Events
