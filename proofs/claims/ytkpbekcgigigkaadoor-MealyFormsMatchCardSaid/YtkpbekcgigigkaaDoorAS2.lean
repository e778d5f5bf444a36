/- mealy.text: the numbers of a list in decimal,a blank behind each. -/
import Derived.Test.YtkpbekcgigigkaaDoorAS1
import Derived.WalkKit
import Derived.BigCall
set_option linter.unusedVariables false
set_option linter.unusedSimpArgs false
namespace Go.Proofs
open Go.RowKit
def Tx.one (n : Nat) : List UInt8 := Lib.decDigits n ++ [32]
def Tx.text (l : List Nat) : List UInt8 := l.flatMap Tx.one
theorem Tx.one_len {n : Nat} (h : n < 100) : (Tx.one n).length ≤ 3 := by
 unfold Tx.one
 rw [List.length_append]
 by_cases h1 : n < 10
 ·rw [Lib.decDigits_one h1]; simp
 ·rw [Lib.decDigits_two h1 h]; simp
theorem Tx.text_len : ∀ {l : List Nat},(∀ z ∈ l,z < 100) → (Tx.text l).length ≤ 3 * l.length
 | [],_ => by simp [Tx.text]
 | n :: l,h => by
  have h1 := Tx.one_len (h n (by simp))
  have h2 := Tx.text_len (l := l) (fun z hz => h z (by simp [hz]))
  have : Tx.text (n :: l) = Tx.one n ++ Tx.text l := rfl
  rw [this,List.length_append,List.length_cons]
  omega
theorem Tx.text_take {l : List Nat} {k : Nat} (h : k < l.length) : Tx.text (l.take (k + 1)) = Tx.text (l.take k) ++ Tx.one (l.getD k 0) := by
 have hg : l.getD k 0 = l[k] := by rw [List.getD_eq_getElem?_getD,List.getElem?_eq_getElem h]; rfl
 have ht : l.take (k + 1) = l.take k ++ [l[k]] := by rw [List.take_add_one,List.getElem?_eq_getElem h]; rfl
 rw [hg,ht,Tx.text,List.flatMap_append]
 simp [Tx.text]
set_option maxHeartbeats 4000000 in
set_option maxRecDepth 1000000 in
theorem Tx.text_walk (bk off len cap : Nat) (zs : List Nat) (w : World) (hlen : len ≤ 100000) (hz : zs.length = len) (hs : ∀ z ∈ zs,z < 100) (hb : bk < w.heap.size)
  (hc : ∀ j,j < len → w.cell? ⟨bk,off + j,none⟩ = some (.int .i64 ((zs.getD j 0 : Nat) : Int))) :
  Calls Tryd.prog 93 #[.slice (some ⟨bk,off,none⟩) len cap] w fun e w' => e = .returned (.string ⟨(Tx.text zs).toArray⟩) ∧ Below w.heap.size w w' := by
 go_enter Tryd.func93,Tryd.ntmps93
 go_wp2
 go_loopw [8] (fun i wr => ∃ k : Nat,k ≤ len ∧ i = .int .i64 k ∧ Lib.IsBuilder 156 5 w.heap.size w.heap.size (Lib.byteCells (Tx.text (zs.take k))) wr ∧ Below w.heap.size w wr) (fun i _ => len - (intOf i).toNat)
 case atStart => exact ⟨0,Nat.zero_le _,rfl,Lib.fresh_isBuilder 156 5 w,(Below.refl _ w).alloc (Nat.le_refl _) _⟩
 case round =>
  obtain ⟨k,hk,rfl,hI,hnx⟩ := hrel
  have hsz := hnx.size
  by_cases hlt : k < len
  ·have hcx : wr.cell? ⟨bk,off + k,none⟩ = some (.int .i64 ((zs.getD k 0 : Nat) : Int)) := (hnx.cell (by exact hb)).trans (hc k hlt)
   have hm : zs.getD k 0 < 100 := hs _ (by rw [List.getD_eq_getElem?_getD,List.getElem?_eq_getElem (by omega)]; exact List.getElem_mem _)
   have htl := Tx.text_len (l := zs.take k) (fun z hz' => hs z (List.mem_of_mem_take hz'))
   have hol := Tx.one_len hm
   rw [List.length_take] at htl
   generalize hzk : zs.getD k 0 = z at *
   go_wp2_with (first
    | (go_at_call 101; refine (Tryd.strconv_Itoa_small z hm _).mono ?_; rintro e w' ⟨rfl,rfl⟩)
    | (go_at_call 100; refine (Tx.writeString w.heap.size w.heap.size _ _ _ hI ?_ hsz).mono ?_))
   ·exfalso
    have : (Tx.one z).length = (Lib.decDigits z).length + 1 := by simp [Tx.one]
    omega
   ·rw [Lib.byteCells_length]
    have : ((⟨(Lib.decDigits z).toArray⟩ : ByteArray) ++ ⟨#[32]⟩).size = (Tx.one z).length := by
     rw [ByteArray.size_append]; simp [ByteArray.size,Tx.one]
    omega
   rintro e W1 ⟨rfl,h1,b1⟩
   go_wp2
   go_roundw
   case rel =>
    refine ⟨k + 1,by omega,by simp,Or.inr ?_,hnx.trans b1⟩
    rw [Tx.text_take (by omega),hzk,Lib.byteCells_append]
    have e2 : Lib.strCells ((⟨(Lib.decDigits z).toArray⟩ : ByteArray) ++ ⟨#[32]⟩) = Lib.byteCells (Tx.one z) := by
     rw [Lib.strCells_eq,ByteArray.data_append]; simp [Tx.one]
    rw [← e2]
    exact h1
   case measure => simp [intOf]; omega
  ·obtain rfl : k = len := by omega
   rw [List.take_of_length_le (by omega)] at hI
   go_wp2_with (go_at_call 102; refine (Tryd.Builder_String_any w.heap.size w.heap.size _ _ hI hsz).mono ?_)
   rintro e W1 ⟨rfl,b1⟩
   go_wp2
   go_ret
   exact ⟨rfl,hnx.trans b1⟩
end Go.Proofs
