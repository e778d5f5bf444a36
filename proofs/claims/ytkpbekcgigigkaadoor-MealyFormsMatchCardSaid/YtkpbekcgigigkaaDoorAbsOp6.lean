/- append of zeros; all operations that call nothing,in one. -/
import Derived.Test.YtkpbekcgigigkaaDoorAbsOp8
import Derived.Test.YtkpbekcgigigkaaDoorAbsHole
namespace Go.Abs
set_option linter.unusedVariables false
set_option linter.unusedSimpArgs false
open Go.RowKit
section
variable {chk : Code → ACode → Bool} {P : Program} {o : Oper} {a : Act} {im : Im} {io : Io} {H H' : Heap} {w : World} {F : List AV} {R : Rec} {v : AV}
theorem xQC {t : TypeId} (h : xVd P t = true) : ∃ k,P.underlying t = some (.int k) := by
 unfold xVd at h
 split at h
 ·exact ⟨_,by assumption⟩
 ·cases h
theorem xNC {z : List AV} {bytes : Nat} {x n : Arg} (hc : xAj P o (.appendz z bytes x n) = true) (hs : Sim chk im io H w) (hF : FRep im io F a) (h : xAa R F H (.appendz z bytes x n) = some (v,H')) : Good chk P o a im io w v H' := by
 simp only [xAj] at hc
 simp only [xAa] at h
 split at hc
 case h_2 => cases hc
 rename_i xs ts ho
 split at hc
 case h_2 => cases hc
 rename_i x' y' t t' hxs hts
 have hxs' : xs = #[x',y'] := by rw [← Array.toList_inj]; simpa using hxs
 have hts' : ts = #[t,t'] := by rw [← Array.toList_inj]; simpa using hts
 subst hxs'; subst hts'
 simp only [Bool.and_eq_true] at hc
 obtain ⟨⟨⟨hx,hy⟩,hint⟩,hc⟩ := hc
 obtain ⟨ki,hint⟩ := xQC hint
 split at hc
 case h_2 => cases hc
 rename_i e he
 simp only [Bool.and_eq_true,beq_iff_eq,decide_eq_true_eq] at hc
 obtain ⟨⟨⟨h1,h2⟩,hpos⟩,hzz⟩ := hc
 split at hzz
 case h_2 => cases hzz
 rename_i zv hz
 obtain ⟨hz1,hz2⟩ := xCG (im := im) (io := io) hzz
 have hu := xBe he
 obtain ⟨i,hi,hsz⟩ := xFw h1
 have hby := xEm hi h2
 have hzo := xE4 hi hz
 have rx := xAb hx hF
 have ry := xAb hy hF
 split at h
 case h_2 => cases h
 rename_i m n0 cs0 em e1
 split at h
 case isFalse => cases h
 rename_i hb
 obtain ⟨hb1,hb2,_⟩ := hb
 unfold xBh at hb1 hb2
 obtain ⟨k,hk⟩ := xBc em ry
 rw [e1] at rx
 generalize hv : a.eval x' = cv at rx
 cases rx
 have wl : IntKind.i64.wrap (m : Int) = m := by rw [IntKind.wrap_i64]; omega
 have n1 : ¬ ((m : Int) < 0) := by omega
 have hbz : ((m : Int)) * (bytes : Int) ≤ 140737488355328 := by
  have : ((m * bytes : Nat) : Int) ≤ 140737488355328 := by omega
  rwa [Int.natCast_mul] at this
 have n2 : ¬ ((281474976710656 : Int) < (m : Int) * (bytes : Int)) := by omega
 by_cases h0 : m = 0
 ·subst h0
  have h' : xDR false true 0 z.length [] H = some (v,H') := by simpa [xCB] using h
  obtain ⟨im',io',s1,s2,s3⟩ := xRs hs h'
  refine ⟨im',io',w,.slice none 0 0,.inl ?_,s1,s2,s3⟩
  simp [execOp,ho,resolve,invoke,builtin,hv,hk,Builtin.append_,run_underlying hu,run_underlying hint,sizeOf,typeInfo,hi,asInt,asIntOf,IntKind.wrap_i64]
 ·have hmz : (m == 0) = false := by simpa using h0
  rw [hmz] at h
  have hnz : ¬ (m * i.size = 0) := by rw [hsz]; intro e0; rcases Nat.mul_eq_zero.1 e0 with q | q <;> omega
  have hns : ¬ (281474976710656 < Builtin.nextslicecap m 0 * bytes) := by
   have := growslice_fits (need := m) (old := 0) (bytes := bytes) (by omega) hb1
   omega
  have h63 : ¬ (9223372036854775807 < (m : Int)) := by omega
  have hge : m ≤ grownCap w m 0 e := grownCap_ge w m 0 e
  have hl : zv.cells.size = z.length := by have := hz1.1; simpa using this
  have hrun : (execOp a.eval o).run P w = .ok (.value (.slice (some ⟨w.heap.size,0,none⟩) m (grownCap w m 0 e))) (w.drew.alloc (.cells (madeCells zv.cells (m * zv.cells.size) ++ Builtin.zeroCells zv.cells (grownCap w m 0 e - m)) e)) := by
   simp [execOp,ho,resolve,invoke,builtin,hv,hk,Builtin.append_,run_underlying hu,run_underlying hint,sizeOf,typeInfo,hi,asInt,asIntOf,wl,n1,n2,h0,hby,hns,h63,hnz,zeroValue,hzo,Question.forced,newRow,grownCap,Builtin.firstCells,
    Builtin.zeroCells,madeCells]
  obtain ⟨im',io',s1,s2,s3⟩ := xHj (cap := grownCap w m 0 e) hs (Pushed.drew w (.cells (madeCells zv.cells (m * zv.cells.size) ++ Builtin.zeroCells zv.cells (grownCap w m 0 e - m)) e)) rfl (xFu hz1 m)
   (fun c hcm => hz2 c (xHi z _ c hcm))
   (fun j u hu' => by
    have g := xDa hz1 m m (Nat.le_refl _) j u hu'
    rw [← hl] at g
    have hlt := (Array.getElem?_eq_some_iff.1 g).1
    rw [Array.getElem?_append_left hlt]; exact g) hge (by
    have hzc : (Builtin.zeroCells zv.cells (grownCap w m 0 e - m)).size = (grownCap w m 0 e - m) * z.length := by rw [size_zeroCells,hl]
    simp only [Array.size_append,size_madeCells,hzc,hl]
    rw [← Nat.add_mul]
    exact Nat.mul_le_mul_right _ (by omega)) h
  exact ⟨im',io',_,_,.inl hrun,s1,s2,s3⟩
def AOp.plain : AOp → Bool
 | .call .. | .icall .. | .fcall .. | .ocall .. | .ocallw .. | .bcall .. => false
 | _ => true
theorem yCH {op : AOp} (hp : op.plain = true) (hc : xAj P o op = true) (hs : Sim chk im io H w) (hF : FRep im io F a) (h : xAa R F H op = some (v,H')) : Good chk P o a im io w v H' := by
 cases op with
 | mov x => exact xZq hc hs hF h
 | pick c x y => exact xVe hc hs hF h
 | box x => exact xZp hc hs hF h
 | build z parts => exact xUh hc hs hF h
 | bslice fz z es n parts => exact xHR hc hs hF h
 | dslice z es n parts => exact xQH hc hs hF h
 | load g n p => exact xVc hc hs hF h
 | store n p x => exact xUg hc hs hF h
 | nilchk x => exact xQK hc hs hF h
 | bin op x y => exact xZs hc hs hF h
 | beq neg x y => exact xZt hc hs hF h
 | isnil neg x => exact xUo hc hs hF h
 | un op x => exact yCK hc hs hF h
 | conv k x => exact xVg hc hs hF h
 | mkfunc f caps => exact xQJ hc hs hF h
 | mkslice fz z bytes l c => exact xNE hc hs hF h
 | slice es x lo hi mx => exact xUl hc hs hF h
 | faddr off x => exact xUi hc hs hF h
 | field g off n x => exact xUk hc hs hF h
 | iaddr es x i => exact xUj hc hs hF h
 | ext i x => exact xZr hc hs hF h
 | len x => exact xZw hc hs hF h
 | cap x => exact xZv hc hs hF h
 | aeq neg n x y => exact xZu hc hs hF h
 | append fz es bytes x y => exact xHP hc hs hF h
 | appendz z bytes x n => exact xNC hc hs hF h
 | appendh es bytes x y => exact xND hc hs hF h
 | copy es x y => simp [xAa] at h
 | maxi x y => exact xVh hc hs hF h
 | mini x y => exact xVi hc hs hF h
 | call f args => cases hp
 | icall f args => cases hp
 | fcall f args => cases hp
 | ocall f args => cases hp
 | ocallw f args => cases hp
 | bcall f args => cases hp
 | mm mx xs => exact yCJ hc hs hF h
 | sslice x lo hi => exact xQI hc hs hF h
 | sbeq neg x y => exact xVf hc hs hF h
 | mkbound f first => exact xNI hc hs hF h
 | idx g es len x i => exact xZB hc hs hF h
 | arrat es len x i => exact xUw hc hs hF h
 | garr b es len i => exact xVv hc hs hF h
 | sidx x i => exact xVw hc hs hF h
 | slen x => exact xVx hc hs hF h
 | mkmap => exact xUu hc hs hF h
 | mlook ks comma z x k => exact xUv hc hs hF h
 | mupd ks m k v => exact xVq hc hs hF h
 | ment ks z m k => exact xVp hc hs hF h
 | mstore m s v => exact xQN hc hs hF h
 | mlen x => exact xVr hc hs hF h
 | mnil neg x => exact xVs hc hs hF h
 | sbytes fz x => exact xQO hc hs hF h
 | bstr x => exact xVu hc hs hF h
 | sadd x y => exact xVt hc hs hF h
end
end Go.Abs
