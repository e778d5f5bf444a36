/- What a formula means at a time; a monitor answers it. -/
import Derived.Test.YtdheandekcpieaaDoorAME
import Derived.Test.YtdheandekcpieaaDoorAbsPars
import Derived.Lib.Join
import Derived.Test.YtdheandekcpieaaDoorAbsBun
namespace Go.Abs.Events
open Go Go.Abs
set_option linter.unusedSimpArgs false
set_option linter.unusedVariables false
def evF (n : Nd) (e : Ev) (A B was : Q) : Q :=
 if n.op = 1 then fun _ => true
 else if n.op = 2 then (if n.name = e.name ∧ n.args.length = e.args.length then fun j => mat j n.args e.args else fQ)
 else if n.op = 3 then fun j => tvs (n.args.getD 0 0) j == tvs (n.args.getD 1 0) j
 else if n.op = 4 then fun j => !A j
 else if n.op = 5 then fun j => A j && B j
 else if n.op = 6 then fun j => A j || B j
 else if n.op = 7 then exQ n.x.toNat A
 else if n.op = 8 then was
 else if n.op = 9 then fun j => B j || (A j && was j)
 else fun j => A j || was j
def yCn (n : Nd) (E : List Ev) (A B : Nat → Q) : Nat → Q
 | 0 => fQ
 | t + 1 => if n.op = 8 then A t else evF n (E.getD t ev0) (A t) (B t) (yCn n E A B t)
def sem (fs : List Nd) (E : List Ev) : Nat → Nat → Nat → Q
 | 0,_,_ => fQ
 | k + 1,i,t => evF (fs.getD i nd0) (E.getD t ev0) (sem fs E k (fs.getD i nd0).a.toNat t) (sem fs E k (fs.getD i nd0).b.toNat t) (yCn (fs.getD i nd0) E (sem fs E k (fs.getD i nd0).a.toNat) (sem fs E k (fs.getD i nd0).b.toNat) t)
section
variable {n : Nd} {e : Ev} {A B w : Q}
end
section
variable {fs : List Nd} {E : List Ev}
def S (fs : List Nd) (E : List Ev) (i t : Nat) : Q := sem fs E (i + 1) i t
def W (fs : List Nd) (E : List Ev) (i t : Nat) : Q := yCn (fs.getD i nd0) E (S fs E (fs.getD i nd0).a.toNat) (S fs E (fs.getD i nd0).b.toNat) t
end
end Go.Abs.Events
/- The text of a formula,in plain words; formulas as trees. -/
namespace Go.Abs.Events
set_option linter.unusedSimpArgs false
set_option linter.unusedVariables false
def spB (t : Int) : UInt8 := if t = 8 then 120 else if t = 9 then 121 else if t = 10 then 122 else UInt8.ofNat (48 + t.toNat)
def nmB (t : Int) : UInt8 := UInt8.ofNat (97 + t.toNat)
def wrp (op : Nat) (s : List UInt8) : List UInt8 := if op = 1 then s else 40 :: (s ++ [41])
def hdW (n : Nd) : List (List UInt8) := opB n.op :: ((if n.op = 2 then [[nmB n.name]] else []) ++ ((if n.op = 7 then [[spB n.x]] else []) ++ n.args.map fun t => [spB t]))
inductive Tr where
 | t0 (n : Nd)
 | t1 (n : Nd) (a : Tr)
 | t2 (n : Nd) (a b : Tr)
def Tr.sz : Tr → Nat
 | .t0 _ => 1
 | .t1 _ a => a.sz + 1
 | .t2 _ a b => a.sz + b.sz + 1
def Tr.tt : Tr → List UInt8
 | .t0 n => wrp n.op (Lib.join (hdW n ++ []) [32])
 | .t1 n a => wrp n.op (Lib.join (hdW n ++ [a.tt]) [32])
 | .t2 n a b => wrp n.op (Lib.join (hdW n ++ [a.tt,b.tt]) [32])
def Tr.nd (p : Nat) : Tr → List Nd
 | .t0 n => [⟨n.op,n.name,n.args.isEmpty,n.args,n.x,0,0⟩]
 | .t1 n a => a.nd p ++ [⟨n.op,n.name,n.args.isEmpty,n.args,n.x,((p + a.sz : Nat) : Int) - 1,0⟩]
 | .t2 n a b => a.nd p ++ b.nd (p + a.sz) ++ [⟨n.op,n.name,n.args.isEmpty,n.args,n.x,((p + a.sz : Nat) : Int) - 1,((p + a.sz + b.sz : Nat) : Int) - 1⟩]
structure Hd (n : Nd) : Prop where
 op : 1 ≤ n.op ∧ n.op ≤ 10
 nm : 0 ≤ n.name ∧ n.name ≤ 7
 nm0 : n.op ≠ 2 → n.name = 0
 x : n.op = 7 → 8 ≤ n.x ∧ n.x ≤ 10
 x0 : n.op ≠ 7 → n.x = 0
 lo : flo n.op ≤ n.args.length
 hi : n.args.length ≤ fhi n.op
 ar : ∀ t ∈ n.args,0 ≤ t ∧ t ≤ 10
def Tr.ok : Tr → Prop
 | .t0 n => Hd n ∧ chn n.op = 0
 | .t1 n a => Hd n ∧ chn n.op = 1 ∧ a.ok
 | .t2 n a b => Hd n ∧ chn n.op = 2 ∧ a.ok ∧ b.ok
theorem Tr.nd_len : ∀ (t : Tr) (p : Nat),(t.nd p).length = t.sz
 | .t0 n,p => rfl
 | .t1 n a,p => by simp [Tr.nd,Tr.sz,a.nd_len p]
 | .t2 n a b,p => by simp [Tr.nd,Tr.sz,a.nd_len p,b.nd_len]; omega
theorem Tr.sz_pos : ∀ t : Tr,1 ≤ t.sz
 | .t0 n => Nat.le_refl _
 | .t1 n a => by unfold Tr.sz; omega
 | .t2 n a b => by unfold Tr.sz; omega
theorem xPG {p : UInt8 → Bool} {c : UInt8} (e : Nat) (r : List UInt8) (h : p c = true) : xBU p e (c :: r) = .ok c (c :: r) := if_pos h
end Go.Abs.Events
/- The parser reads a tree's text. -/
namespace Go.Abs.Events
set_option linter.unusedSimpArgs false
set_option linter.unusedVariables false
def jt (T : List (List UInt8)) : List UInt8 := Lib.joinTail [32] T
def aT (us : List Int) : List UInt8 := us.flatMap fun t => [32,spB t]
theorem xZ0 : jt [] = [] := rfl
theorem xWY (a : List UInt8) : jt [a] = 32 :: a := by simp [jt,Lib.joinTail]
theorem xZ1 (a b : List UInt8) : jt [a,b] = 32 :: (a ++ 32 :: b) := by simp [jt,Lib.joinTail]
theorem xPH (a b : List (List UInt8)) : jt (a ++ b) = jt a ++ jt b := by simp [jt,Lib.joinTail]
theorem xTq : ∀ us : List Int,jt (us.map fun t => [spB t]) = aT us
 | [] => rfl
 | t :: us => by
  rw [List.map_cons,show ([spB t] :: us.map fun t => [spB t]) = [[spB t]] ++ us.map fun t => [spB t] from rfl,xPH,xTq us,xWY]; rfl
theorem xH3 (n : Nd) (T : List (List UInt8)) : Lib.join (hdW n ++ T) [32] = opB n.op ++ ((if n.op = 2 then [32,nmB n.name] else []) ++ ((if n.op = 7 then [32,spB n.x] else []) ++ (aT n.args ++ jt T))) := by
 unfold hdW
 rw [List.cons_append,Lib.join_cons]
 congr 1
 show jt _ = _
 rw [xPH,xPH,xPH,xTq,List.append_assoc,List.append_assoc]
 congr 1
 ·split <;> rfl
 congr 1
 split <;> rfl
theorem xXZ (t : Int) (us : List Int) : aT (t :: us) = 32 :: spB t :: aT us := rfl
def Nd.w (n : Nd) (a b : Int) : Nd := ⟨n.op,n.name,n.args.isEmpty,n.args,n.x,a,b⟩
abbrev zS (b : List UInt8) : AV := .str ⟨b.toArray⟩
def xX0 (H : Heap) (v : AV) (lo hi : Option AV) : Option (AV × Heap) := match v with
 | .str s => (xBi s.size lo hi none).map fun (l,h) => (.str (s.extract l h),H)
 | _ => none
theorem xBS {R : Rec} {F : List AV} {H : Heap} (x : Arg) (lo hi : Option Arg) : xAb R F H (.sslice x lo hi) = xX0 H (opv F x) (lo.map (opv F)) (hi.map (opv F)) := rfl
section
variable {s5 s7 s8 s19 s20 s21 : AV} {ts : List Int} {z : Bool} {B : Nat}
end
def xJ5 (n : Nd) : List Nat := if chn n.op = 2 then [n.a.toNat,n.b.toNat] else if chn n.op = 1 then [n.a.toNat] else []
inductive Bk (os : List Nat) : Nat → List Nat → Prop
 | nil : Bk os 0 []
 | snoc {i j : Nat} {S : List Nat} (h : Bk os i S) (hj : i ≤ j) (hs : os.getD j 0 = j + 1 - i) : Bk os (j + 1) (S ++ [j])
theorem Bk.inv {os : List Nat} {i : Nat} {S : List Nat} (h : Bk os i S) : (i = 0 ∧ S = []) ∨ ∃ j i' S',i = j + 1 ∧ S = S' ++ [j] ∧ Bk os i' S' ∧ i' ≤ j ∧ os.getD j 0 = j + 1 - i' := by
 cases h with
 | nil => exact .inl ⟨rfl,rfl⟩
 | snoc h hj hs => exact .inr ⟨_,_,_,rfl,rfl,h,hj,hs⟩
theorem Bk.lt {os : List Nat} {i : Nat} {S : List Nat} (h : Bk os i S) : ∀ j ∈ S,j < i := by
 induction h with
 | nil => intro j hj; cases hj
 | snoc h hj hs ih =>
  intro k hk
  rcases List.mem_append.1 hk with hk | hk
  ·have := ih k hk; omega
  ·obtain rfl := List.mem_singleton.1 hk; omega
theorem Bk.len {os : List Nat} {i : Nat} {S : List Nat} (h : Bk os i S) : S.length ≤ i := by
 induction h with
 | nil => simp
 | snoc h hj hs ih => simp; omega
theorem Bk.app {os : List Nat} {i : Nat} {S : List Nat} (x : Nat) (h : Bk os i S) : i ≤ os.length → Bk (os ++ [x]) i S := by
 induction h with
 | nil => exact fun _ => .nil
 | @snoc i j S h hj hs ih =>
  intro hl
  refine .snoc (ih (by omega)) hj ?_
  rw [List.getD_eq_getElem?_getD,List.getElem?_append_left (by omega),← List.getD_eq_getElem?_getD]
  exact hs
theorem Bk.top {os : List Nat} {i : Nat} {S : List Nat} (h : Bk os i S) (hi : 0 < i) : ∃ S',S = S' ++ [i - 1] ∧ Bk os (i - os.getD (i - 1) 0) S' ∧ os.getD (i - 1) 0 ≤ i ∧ 0 < os.getD (i - 1) 0 := by
 rcases h.inv with ⟨rfl,rfl⟩ | ⟨j,i',S',rfl,rfl,h',hj,hs⟩
 ·omega
 ·refine ⟨S',by simp,?_,?_,?_⟩
  ·rw [Nat.add_sub_cancel,hs,show j + 1 - (j + 1 - i') = i' by omega]; exact h'
  ·rw [Nat.add_sub_cancel,hs]; omega
  ·rw [Nat.add_sub_cancel,hs]; omega
theorem xH4 (os : List Nat) (x : Nat) : (os ++ [x]).getD os.length 0 = x := by
 rw [List.getD_eq_getElem?_getD,List.getElem?_append_right (Nat.le_refl _),Nat.sub_self]; rfl
theorem Bk.step {os : List Nat} {S : List Nat} {n : Nd} (h : Bk os os.length S) (hz : szN n os ≠ 0) :
  ∃ S',S = S' ++ xJ5 n ∧ Bk (os ++ [szN n os]) (os.length + 1) (S' ++ [os.length]) ∧ szN n os = 1 + ((xJ5 n).map fun j => os.getD j 0).sum := by
 rcases xBF n.op with hc | hc | hc
 ·have hk : xJ5 n = [] := by unfold xJ5; rw [hc]; rfl
  have hs : szN n os = 1 := by
   unfold szN at hz ⊢
   rw [if_pos hc] at hz ⊢
   split at hz
   ·rename_i q; rw [if_pos q]
   ·exact absurd rfl hz
  refine ⟨S,by rw [hk,List.append_nil],.snoc (h.app _ (Nat.le_refl _)) (Nat.le_refl _) ?_,by rw [hk,hs]; rfl⟩
  rw [xH4,hs]; omega
 ·have hs0 := hz
  unfold szN at hz
  rw [if_neg (by omega)] at hz
  split at hz
  ·exact absurd rfl hz
  rename_i h1
  rw [not_or] at h1
  split at hz
  case isFalse => exact absurd rfl hz
  rename_i h2
  obtain ⟨S',rfl,h',hle,hpos⟩ := h.top (by omega)
  have hk : xJ5 n = [os.length - 1] := by unfold xJ5; rw [if_neg (by omega),if_pos hc,h2.1]; rfl
  have hs : szN n os = 1 + os.getD (os.length - 1) 0 := by
   unfold szN
   rw [if_neg (by omega),if_neg (by rw [not_or]; exact h1),if_pos hc,if_pos h2]
  refine ⟨S',by rw [hk],.snoc (h'.app _ (by omega)) (by omega) ?_,by rw [hk,hs]; rfl⟩
  rw [xH4,hs]; omega
 ·unfold szN at hz
  rw [if_neg (by omega)] at hz
  split at hz
  ·exact absurd rfl hz
  rename_i h1
  rw [not_or] at h1
  rw [if_neg (by omega)] at hz
  split at hz
  ·exact absurd rfl hz
  rename_i h2
  rw [not_or] at h2
  split at hz
  case isFalse => exact absurd rfl hz
  rename_i h3
  obtain ⟨S',rfl,h',hle,hpos⟩ := h.top (by omega)
  obtain ⟨S'',rfl,h'',hle',hpos'⟩ := h'.top (by omega)
  have hk : xJ5 n = [os.length - os.getD (os.length - 1) 0 - 1,os.length - 1] := by unfold xJ5; rw [if_pos hc,h3.1,h3.2]; rfl
  have hs : szN n os = 1 + os.getD (os.length - 1) 0 + os.getD (os.length - os.getD (os.length - 1) 0 - 1) 0 := by
   unfold szN
   rw [if_neg (by omega),if_neg (by rw [not_or]; exact h1),if_neg (by omega),if_neg (by rw [not_or]; exact h2),if_pos h3]
  refine ⟨S'',by rw [hk]; simp,.snoc (h''.app _ (by omega)) (by omega) ?_,by rw [hk,hs]; simp; omega⟩
  rw [xH4,hs]; omega
section
variable {fz : Bool} {fs : List Nd} {n : Nd} {i : Nat}
end
section
variable {fz : Bool} {fs : List Nd}
end
theorem xX1 (n : Nd) (a : Tr) (p : Nat) : (Tr.t1 n a).nd p = a.nd p ++ [⟨n.op,n.name,n.args.isEmpty,n.args,n.x,((p + a.sz : Nat) : Int) - 1,0⟩] := rfl
theorem xX2 (n : Nd) (a b : Tr) (p : Nat) : (Tr.t2 n a b).nd p = a.nd p ++ b.nd (p + a.sz) ++ [⟨n.op,n.name,n.args.isEmpty,n.args,n.x,((p + a.sz : Nat) : Int) - 1,((p + a.sz + b.sz : Nat) : Int) - 1⟩] := rfl
theorem xX3 {n : Nd} (h : Hd n) : n.args.length ≤ 2 := by
 have h1 := h.hi
 have h2 := xCf n.op
 omega
theorem xX4 {op : Nat} (h1 : 1 ≤ op) (h2 : op ≤ 10) : 1 ≤ (opB op).length := by
 have h : op = 1 ∨ op = 2 ∨ op = 3 ∨ op = 4 ∨ op = 5 ∨ op = 6 ∨ op = 7 ∨ op = 8 ∨ op = 9 ∨ op = 10 := by omega
 rcases h with rfl | rfl | rfl | rfl | rfl | rfl | rfl | rfl | rfl | rfl <;> decide
theorem xX5 {s : List UInt8} (h : pnp s = true) : L.pcall 12 [zS s] = some (.tup [.sl (parse s).1.isEmpty (parse s).1.length (nds (parse s).1),.int .i64 ((parse s).2.1 : Nat),.int .i64 ((parse s).2.2 : Nat)]) := by
 refine xB3 rfl ?_
 show (if pnp s = true then some (AV.tup [.sl (parse s).1.isEmpty (parse s).1.length ((parse s).1.flatMap fun n => [.int .u8 (n.op : Nat),.int .i64 n.name,.sl n.z n.args.length (n.args.map (AV.int .i64)),.int .i64 n.x,.int .i64 n.a,.int .i64 n.b]),.int .i64 ((parse s).2.1 : Nat),.int .i64 ((parse s).2.2 : Nat)]) else none) = _
 rw [if_pos h]
 rfl
end Go.Abs.Events
