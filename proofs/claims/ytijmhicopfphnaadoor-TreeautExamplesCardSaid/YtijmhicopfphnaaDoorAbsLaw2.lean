/- AbsLaw's road,with the bound on the bytes of each slice that comes in. -/
import Derived.Test.YtijmhicopfphnaaDoorAbsLaw
import Derived.SizedLaws
namespace Go.Abs
set_option linter.unusedVariables false
set_option linter.unusedSimpArgs false
open Go.ChangeShapes Go.WideShapes Go.ChangeAt Go.RowKit
section
variable {H : Type} {enc : TypeId × Value → H} {P : Program} {w : World} {base : Nat} {sp : Nat → Bool} {held : Bool}
theorem xWa {t e : TypeId} {z : Bool} {n B : Nat} {cs : List AV} {v : Value} {dd : DataW H} {ps : List MemPlace} (ht : P.underlying t = some (.slice e)) (hr : Rep (xPP w) xKI (.sl z n cs) v)
  (h : DataW.Trod enc P w base sp held t v dd ps) (hw : (dd.weights P t).all (· ≤ B) = true) : n * P.bytesOf e ≤ B := by
 cases hr with
 | slz => rw [Nat.zero_mul]; exact Nat.zero_le _
 | sl0 => rw [Nat.zero_mul]; exact Nat.zero_le _
 | @sl _ _ _ b o cp vs hro hl hcap hc hk =>
  obtain ⟨fuel,h⟩ := h
  have h' : DataW.trod enc P w base sp held fuel t [.slice (some ⟨b,o,none⟩) n cp] = some (dd,ps) := h
  rcases DataW.trod_slice ht h' with ⟨q,-⟩ | ⟨a,len,cap,elems,rest,m,-,q,q2,-,-,-,hlen,-⟩
  ·injection q with q _
   injection q with q _ _
   cases q
  ·injection q with q _
   injection q with _ q _
   subst q
   injection q2 with q2 _
   subst q2
   unfold DataW.weights at hw
   rw [ht] at hw
   simp only [List.all_cons,Bool.and_eq_true,decide_eq_true_eq,List.length_map] at hw
   exact Nat.le_trans (Nat.mul_le_mul_right _ (by omega)) hw.1
theorem xOJ {B : Nat} {vt : List TypeId} {gs : List (DataW H)} : ∀ {ts : List TypeId} {vs : List Value} {ds : List (DataW H)} {ps : List MemPlace} {avs : List AV},DataW.TrodAll enc P w base sp held ts vs ds ps → Reps (xPP w) xKI avs vs →
  (DataW.weightsEach P (ts ++ vt) (ds ++ gs)).all (· ≤ B) = true → ∀ (j : Nat) (t e : TypeId) (z : Bool) (n : Nat) (cs : List AV),ts[j]? = some t → P.underlying t = some (.slice e) → avs[j]? = some (.sl z n cs) → n * P.bytesOf e ≤ B
 | [],_,_,_,_,_,_,_,j,t,e,z,n,cs,h1,_,_ => by simp at h1
 | t0 :: ts,vs,ds,ps,avs,h,hr,hw,j,t,e,z,n,cs,h1,h2,h3 => by
  obtain ⟨v,vs,d,ds,p,q,rfl,rfl,rfl,g1,g2⟩ := trodAll_cons h
  have hw' : (d.weights P t0 ++ DataW.weightsEach P (ts ++ vt) (ds ++ gs)).all (· ≤ B) = true := hw
  rw [List.all_append,Bool.and_eq_true] at hw'
  cases avs with
  | nil => simp at h3
  | cons a avs =>
   cases j with
   | zero =>
    simp only [List.getElem?_cons_zero,Option.some.injEq] at h1 h3
    subst h1
    subst h3
    exact xWa h2 (hr.2 0 _ v rfl rfl) g1 hw'.1
   | succ j =>
    have hr' : Reps (xPP w) xKI avs vs := ⟨by simpa using hr.1,fun i c v h1 h2 => hr.2 (i + 1) c v h1 h2⟩
    exact xOJ g2 hr' hw'.2 j t e z n cs (by simpa using h1) h2 (by simpa using h3)
end
def Sized (P : Program) (ts : List TypeId) (avs : List AV) : Prop := ∀ (j : Nat) (t e : TypeId) (z : Bool) (n : Nat) (cs : List AV),ts[j]? = some t → P.underlying t = some (.slice e) → avs[j]? = some (.sl z n cs) → n * P.bytesOf e ≤ reachBytes
def yBk (P : Program) (ts : List TypeId) (j : Nat) : Bool := match ts[j]? with
 | some t => (match P.underlying t with
  | some (.slice e) => P.bytesOf e == 1
  | _ => false)
 | none => false
theorem Sized.len {P : Program} {ts : List TypeId} {avs : List AV} (h : Sized P ts avs) (j : Nat) (hb : yBk P ts j = true) (z : Bool) (n : Nat) (cs : List AV) (ha : avs[j]? = some (.sl z n cs)) : n ≤ 140737488355328 := by
 unfold yBk at hb
 split at hb
 ·rename_i t ht
  split at hb
  ·rename_i e he
   have := h j t e z n cs ht he ha
   rw [eq_of_beq hb,Nat.mul_one] at this
   exact Nat.le_trans this (by decide)
  ·cases hb
 ·cases hb
end Go.Abs
