/- Lists of data under way: a push,and what is frozen. -/
import Derived.Test.YtdkbhidfiplncaaAMD
import Derived.Test.YtdkbhidfiplncaaAbsWalk
namespace Go.Abs.Det
open Go Go.Abs
set_option linter.unusedSimpArgs false
set_option linter.unusedVariables false

def Lst (B : Nat) (H : xAv) (v : AV) (cs : List AV) : Prop :=
  (cs = [] ∧ v = .sl true 0 []) ∨ ∃ id,v = .own false id 0 cs.length 1 ∧ H[id]? = some (.cells false false cs) ∧ B ≤ id ∧ cs ≠ []
def Kp (B : Nat) (H H' : xAv) : Prop := H.length ≤ H'.length ∧ ∀ b,b < B → H'[b]? = H[b]?
theorem Kp.refl (B : Nat) (H : xAv) : Kp B H H := ⟨Nat.le_refl _,fun _ _ => rfl⟩
theorem Kp.trans {B : Nat} {H H' H2 : xAv} (h : Kp B H H') (h2 : Kp B H' H2) : Kp B H H2 := ⟨Nat.le_trans h.1 h2.1,fun b hb => (h2.2 b hb).trans (h.2 b hb)⟩
theorem Kp.low {B B' : Nat} {H H' : xAv} (h : Kp B H H') (hb : B' ≤ B) : Kp B' H H' := ⟨h.1,fun b q => h.2 b (by omega)⟩
theorem Kp.get {B : Nat} {H H' : xAv} (h : Kp B H H') {b : Nat} {x : Option Blk} (hb : b < B) (hx : H[b]? = x) : H'[b]? = x := (h.2 b hb).trans hx
theorem Lst.nil (B : Nat) (H : xAv) : Lst B H (.sl true 0 []) [] := .inl ⟨rfl,rfl⟩
theorem Lst.low {B B' : Nat} {H : xAv} {v : AV} {cs : List AV} (h : Lst B H v cs) (hb : B' ≤ B) : Lst B' H v cs := by
  rcases h with h | ⟨id,a,b,c,e⟩
  · exact .inl h
  · exact .inr ⟨id,a,b,by omega,e⟩
theorem Lst.keep {B C : Nat} {H H' : xAv} {v : AV} {cs : List AV} (h : Lst B H v cs) (hk : Kp C H H') (hC : H.length ≤ C) : Lst B H' v cs := by
  rcases h with h | ⟨id,a,b,c,e⟩
  · exact .inl h
  · have := (List.getElem?_eq_some_iff.1 b).1
    exact .inr ⟨id,a,(hk.2 id (by omega)).trans b,c,e⟩

def At (v : AV) (b : Nat) : Prop := ∃ z o n es,v = .own z b o n es
theorem Lst.inb {B : Nat} {H : xAv} {v : AV} {cs : List AV} (h : Lst B H v cs) {b : Nat} (hb : At v b) : b < H.length ∧ B ≤ b := by
  obtain ⟨z,o,n,es,e⟩ := hb
  rcases h with ⟨_,rfl⟩ | ⟨id,rfl,hi,hb,_⟩
  · cases e
  · cases e; exact ⟨(List.getElem?_eq_some_iff.1 hi).1,hb⟩
theorem Lst.other {B : Nat} {H H' : xAv} {v : AV} {cs : List AV} (h : Lst B H v cs) (hk : ∀ b,At v b → H'[b]? = H[b]?) : Lst B H' v cs := by
  rcases h with h | ⟨id,e,hi,hb,h0⟩
  · exact .inl h
  · exact .inr ⟨id,e,(hk id ⟨_,_,_,_,e⟩).trans hi,hb,h0⟩

theorem Lst.push2 {B : Nat} {H : xAv} {v : AV} {cs : List AV} (h : Lst B H v cs) (c : AV) {bytes : Nat} (hr : (cs.length + 1) * bytes ≤ 140737488355328) (hr2 : cs.length + 1 ≤ 140737488355328) (hB : B ≤ H.length) :
    ∃ v' H',xQf false 1 bytes H v (some (1,[c])) = some (v',H') ∧ Lst B H' v' (cs ++ [c]) ∧ Kp B H H' ∧ (∀ b,b < H.length → ¬ At v b → H'[b]? = H[b]?) ∧ (∀ b,At v' b → b = H.length) ∧ ∃ id n,v' = .own false id 0 n 1 := by
  rcases h with ⟨rfl,rfl⟩ | ⟨id,rfl,hi,hb,_⟩
  · refine ⟨.own false H.length 0 1 1,H ++ [.cells false false [c]],?_,.inr ⟨H.length,rfl,by simp,hB,by simp⟩,⟨by simp,fun b hb => List.getElem?_append_left (by omega)⟩,fun b hb _ => List.getElem?_append_left hb,fun b hb => ?_,_,_,rfl⟩
    · rw [xEq (by simpa using hr) (by omega)]
      rfl
    · obtain ⟨z,o,n,es,e⟩ := hb; cases e; rfl
  · refine ⟨.own false H.length 0 (cs.length + 1) 1,H.set id .dead ++ [.cells false false (cs ++ [c])],?_,.inr ⟨H.length,by simp,?_,by omega,by simp⟩,⟨by simp,fun b hb' => ?_⟩,fun b hb hn => ?_,fun b hb => ?_,_,_,rfl⟩
    · rw [xFN,hi]
      show (if _ then _ else _) = _
      rw [if_pos ⟨by omega,hr,hr2⟩]
      simp
    · rw [List.getElem?_append_right (by simp)]; simp
    · have := (List.getElem?_eq_some_iff.1 hi).1
      rw [List.getElem?_append_left (by simp; omega),List.getElem?_set_ne (by omega)]
    · rw [List.getElem?_append_left (by simpa using hb),List.getElem?_set_ne (by rintro rfl; exact hn ⟨_,_,_,_,rfl⟩)]
    · obtain ⟨z,o,n,es,e⟩ := hb; cases e; rfl
theorem Lst.push {B : Nat} {H : xAv} {v : AV} {cs : List AV} (h : Lst B H v cs) (c : AV) {bytes : Nat} (hr : (cs.length + 1) * bytes ≤ 140737488355328) (hr2 : cs.length + 1 ≤ 140737488355328) (hB : B ≤ H.length) :
    ∃ v' H',xQf false 1 bytes H v (some (1,[c])) = some (v',H') ∧ Lst B H' v' (cs ++ [c]) ∧ Kp B H H' := by
  obtain ⟨v',H',a,b,c,_⟩ := h.push2 c hr hr2 hB
  exact ⟨v',H',a,b,c⟩

theorem xJs {d : Nat} {G : xAv} {cs : List AV} (h : cs.all xCA = true) : cs.mapM (frz d G) = some cs ∧ cs.flatMap (bor d G) = [] := by
  induction cs with
  | nil => exact ⟨rfl,rfl⟩
  | cons c cs ih =>
    simp only [List.all_cons,Bool.and_eq_true] at h
    obtain ⟨i1,i2⟩ := ih h.2
    obtain ⟨f1,f2⟩ := Fz.data (G := G) (B := G.length) h.1 d (Nat.zero_le _)
    have f3 : bor d G c = [] := by
      cases e : bor d G c with
      | nil => rfl
      | cons b l => have := f2 b (by rw [e]; simp); omega
    simp [List.mapM_cons,f1,i1,i2,f3]

theorem Lst.dat {B : Nat} {H : xAv} {v : AV} {cs : List AV} (h : Lst B H v cs) (hd : cs.all xCA = true) (d : Nat) : frz (d + 1) H v = some (.sl (cs.length == 0) cs.length cs) := by
  rcases h with ⟨rfl,rfl⟩ | ⟨id,rfl,hi,hb,h0⟩
  · rfl
  · have hz : (cs.length == 0) = false := by
      cases cs with
      | nil => exact absurd rfl h0
      | cons => rfl
    obtain ⟨a1,a2⟩ := xJs (d := d) (G := H) hd
    have htk : (cs.drop 0).take (cs.length * 1) = cs := by rw [List.drop_zero,Nat.mul_one,List.take_length]
    rw [hz]
    simp only [frz,hi,htk,a1]
    rw [if_pos (by omega)]
    rfl
theorem Lst.own {B : Nat} {H : xAv} {v : AV} {cs : List AV} (h : Lst B H v cs) (h0 : cs ≠ []) : ∃ id n,v = .own false id 0 n 1 := by
  rcases h with ⟨rfl,_⟩ | ⟨id,rfl,_⟩
  · exact absurd rfl h0
  · exact ⟨_,_,rfl⟩
theorem Lst.data {B : Nat} {H : xAv} {v : AV} {cs : List AV} (h : Lst B H v cs) (hd : cs.all xCA = true) :
    frz 6 H v = some (.sl (cs.length == 0) cs.length cs) ∧ ∃ H',List.foldl (fun H i => List.modify H i xG1) H (bor 6 H v) = H' ∧ Kp B H H' := by
  refine ⟨h.dat hd 5,?_⟩
  rcases h with ⟨rfl,rfl⟩ | ⟨id,rfl,hi,hb,h0⟩
  · exact ⟨H,rfl,Kp.refl _ _⟩
  · obtain ⟨a1,a2⟩ := xJs (d := 5) (G := H) hd
    have htk : (cs.drop 0).take (cs.length * 1) = cs := by rw [List.drop_zero,Nat.mul_one,List.take_length]
    refine ⟨H.modify id xG1,?_,by simp,fun b hb' => by rw [List.getElem?_modify_ne]; omega⟩
    simp only [bor,hi,htk,a2,List.foldl_cons,List.foldl_nil]
end Go.Abs.Det
