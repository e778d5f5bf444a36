/- mealy.text is what the interpreter's table says. -/
import Derived.Test.YtkpbekcgigigkaaDoorAS2
import Derived.Test.YtkpbekcgigigkaaDoorAbsFix
set_option linter.unusedVariables false
set_option linter.unusedSimpArgs false
namespace Go.Proofs
open Go.RowKit
set_option maxHeartbeats 4000000 in
set_option maxRecDepth 1000000 in
theorem Tx.text_zero (p : Option Addr) (cap : Nat) (w : World) : Calls Tryd.prog 93 #[.slice p 0 cap] w fun e w' => e = .returned (.string ⟨#[]⟩) ∧ Below w.heap.size w w' := by
 go_enter Tryd.func93,Tryd.ntmps93
 go_wp2
 go_loopw [8] (fun i wr => i = .int .i64 0 ∧ Lib.IsBuilder 156 5 w.heap.size w.heap.size (Lib.byteCells []) wr ∧ Below w.heap.size w wr) (fun i _ => 1)
 case atStart => exact ⟨rfl,Lib.fresh_isBuilder 156 5 w,(Below.refl _ w).alloc (Nat.le_refl _) _⟩
 case round =>
  obtain ⟨rfl,hI,hnx⟩ := hrel
  have hsz := hnx.size
  go_wp2_with (go_at_call 102; refine (Tryd.Builder_String_any w.heap.size w.heap.size _ _ hI hsz).mono ?_)
  rintro e W1 ⟨rfl,b1⟩
  go_wp2
  go_ret
  exact ⟨rfl,hnx.trans b1⟩
theorem Tx.one_eq {n : Nat} (h : n < 100) : Tx.one n = Go.Abs.dec2 n ++ [32] := by
 unfold Tx.one Go.Abs.dec2
 by_cases h1 : n < 10
 ·rw [Lib.decDigits_one h1,if_pos h1]
 ·rw [Lib.decDigits_two h1 h,if_neg h1]
theorem Tx.text_eq : ∀ {l : List Nat},(∀ z ∈ l,z < 100) → Tx.text l = Go.Abs.textA l
 | [],_ => rfl
 | n :: l,h => by
  have h1 := Tx.one_eq (h n (by simp))
  have h2 := Tx.text_eq (l := l) (fun z hz => h z (by simp [hz]))
  have e1 : Tx.text (n :: l) = Tx.one n ++ Tx.text l := rfl
  have e2 : Go.Abs.textA (n :: l) = (Go.Abs.dec2 n ++ [32]) ++ Go.Abs.textA l := rfl
  rw [e1,e2,h1,h2]
theorem Tx.nums : ∀ {cs : List Go.Abs.AV} {l : List Nat},Go.Abs.numsA cs = some l → cs.length = l.length ∧ (∀ z ∈ l,z < 100) ∧ ∀ j,j < l.length → cs[j]? = some (.int .i64 ((l.getD j 0 : Nat) : Int))
 | [],l,h => by simp [Go.Abs.numsA] at h; subst h; exact ⟨rfl,by simp,fun j hj => by simp at hj⟩
 | c :: cs,l,h => by
  unfold Go.Abs.numsA at h
  split at h
  ·rename_i e; cases e
  ·rename_i n cs' e
   cases e
   split at h
   case isFalse => cases h
   rename_i hn
   simp only [Option.map_eq_some_iff] at h
   obtain ⟨l',h,rfl⟩ := h
   obtain ⟨h1,h2,h3⟩ := Tx.nums h
   refine ⟨by simp [h1],fun z hz => ?_,fun j hj => ?_⟩
   ·rcases List.mem_cons.1 hz with rfl | hz
    ·omega
    ·exact h2 z hz
   ·cases j with
    | zero => simp; omega
    | succ j => simpa using h3 j (by simpa using hj)
  ·cases h
open Go.Abs in
theorem Tx.primOk (f : Nat) (g : List AV → Option AV) (args : List AV) (v : AV) (hp : xZy f = some g) (hg : g args = some v) :
  (∀ (vs : Array Value) w,(callFunc f vs).run Tryd.prog w = .ok (.enter f vs) w) ∧ ∀ im w vs,xZh im w → Reps im xD0 args vs → Calls Tryd.prog f vs.toArray w (xQz im w v) := by
 unfold xZy at hp
 split at hp
 case isFalse => cases hp
 rename_i hf
 subst hf
 cases hp
 refine ⟨fun vs w => enters_of Tryd.func93 (by kernel_rfl) rfl vs w,fun im w vs hI hr => ?_⟩
 dsimp only at hg
 split at hg
 case h_2 => cases hg
 rename_i z n cs
 split at hg
 case isFalse => cases hg
 rename_i hn
 simp only [Option.map_eq_some_iff] at hg
 obtain ⟨l,hl,rfl⟩ := hg
 obtain ⟨c1,c2,c3⟩ := Tx.nums hl
 have fin : ∀ {e : Ending} {w' : World},(e = .returned (.string ⟨(Tx.text l).toArray⟩) ∧ Below w.heap.size w w') → xQz im w (.str ⟨(textA l).toArray⟩) e w' := by
  rintro e w' ⟨rfl,hb⟩
  refine ⟨_,im,rfl,ImLe.refl _,⟨fun b o hbo => ?_,hI.2⟩,fun b o hbo => .inl hbo,hb,?_⟩
  ·have := hI.1 b o hbo
   have hlt : b < w.heap.size := (Array.getElem?_eq_some_iff.1 this).1
   rw [hb.block b hlt]; exact this
  ·rw [Tx.text_eq c2]; exact .str
 obtain ⟨hlen,hr⟩ := hr
 match vs,hlen with
 | [x],_ =>
  have hx := hr 0 _ x rfl rfl
  cases hx with
  | slz =>
   have : l = [] := List.eq_nil_of_length_eq_zero (by simpa using c1.symm)
   subst this
   exact (Tx.text_zero none 0 w).mono fun e w' h => fin h
  | sl0 =>
   have : l = [] := List.eq_nil_of_length_eq_zero (by simpa using c1.symm)
   subst this
   exact (Tx.text_zero _ _ w).mono fun e w' h => fin h
  | sl hrow hl' hcap hc hk =>
   obtain ⟨c,t,fr,g1,g2⟩ := hrow
   have hw := hI.1 _ _ g1
   refine (Tx.text_walk _ _ n _ l w hn.2 (by omega) c2 (Array.getElem?_eq_some_iff.1 hw).1 fun j hj => ?_).mono fun e w' h => fin h
   have hj' : j < l.length := by omega
   have e1 := c3 j hj'
   have hjl : j < _ := Nat.lt_of_lt_of_eq (show j < cs.length by omega) hl'.symm
   have u1 := List.getElem?_eq_getElem hjl
   have u2 := hc j _ _ e1 u1
   have := g2 j _ u1
   generalize (_ : List Value)[j] = u at u2 this
   cases u2
   rw [Lib.cell_of_heap hw]
   exact this
end Go.Proofs
