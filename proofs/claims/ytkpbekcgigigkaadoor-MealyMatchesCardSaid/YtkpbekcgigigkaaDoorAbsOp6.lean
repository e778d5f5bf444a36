/- append of zeros; all operations that call nothing,in one. -/
import Derived.Test.YtkpbekcgigigkaaDoorAbsOp8
import Derived.Test.YtkpbekcgigigkaaDoorAbsHole
namespace Go.Abs
set_option linter.unusedVariables false
set_option linter.unusedSimpArgs false
open Go.RowKit
section
variable {chk : Code → ACode → Bool} {P : Program} {o : Oper} {a : Act} {im : Im} {io : Io} {H H' : Heap} {w : World} {F : List AV} {R : Rec} {v : AV}
theorem xPo {t : TypeId} (h : xTy P t = true) : ∃ k,P.underlying t = some (.int k) := by
  unfold xTy at h
  split at h
  · exact ⟨_,by assumption⟩
  · cases h
theorem xMv {z : List AV} {bytes : Nat} {x n : Arg} (hc : xAP P o (.appendz z bytes x n) = true) (hs : Sim chk im io H w) (hF : FRep im io F a) (h : xAc R F H (.appendz z bytes x n) = some (v,H')) : Good chk P o a im io w v H' := by
  simp only [xAP] at hc
  simp only [xAc] at h
  split at hc
  case h_2 => cases hc
  rename_i xs ts ho
  split at hc
  case h_2 => cases hc
  rename_i x' y' t t' hxs hts
  have hxs' : xs = #[x',y'] := by rw [← Array.toList_inj]; simpa using hxs
  have hts' : ts = #[t,t'] := by rw [← Array.toList_inj]; simpa using hts
  subst hxs'; subst hts'
  simp only [Bool.and_eq_true] at hc
  obtain ⟨⟨⟨hx,hy⟩,hint⟩,hc⟩ := hc
  obtain ⟨ki,hint⟩ := xPo hint
  split at hc
  case h_2 => cases hc
  rename_i e he
  simp only [Bool.and_eq_true,beq_iff_eq,decide_eq_true_eq] at hc
  obtain ⟨⟨⟨h1,h2⟩,hpos⟩,hzz⟩ := hc
  split at hzz
  case h_2 => cases hzz
  rename_i zv hz
  obtain ⟨hz1,hz2⟩ := xCO (im := im) (io := io) hzz
  have hu := xBv he
  obtain ⟨i,hi,hsz⟩ := xFa h1
  have hby := xEc hi h2
  have hzo := xEJ hi hz
  have rx := xAq hx hF
  have ry := xAq hy hF
  split at h
  case h_2 => cases h
  rename_i m n0 cs0 em e1
  split at h
  case isFalse => cases h
  rename_i hb
  obtain ⟨hb1,hb2,_⟩ := hb
  unfold xBy at hb1 hb2
  obtain ⟨k,hk⟩ := xBr em ry
  rw [e1] at rx
  generalize hv : a.eval x' = cv at rx
  cases rx
  have wl : IntKind.i64.wrap (m : Int) = m := by rw [IntKind.wrap_i64]; omega
  have n1 : ¬ ((m : Int) < 0) := by omega
  have hbz : ((m : Int)) * (bytes : Int) ≤ 140737488355328 := by
    have : ((m * bytes : Nat) : Int) ≤ 140737488355328 := by omega
    rwa [Int.natCast_mul] at this
  have n2 : ¬ ((281474976710656 : Int) < (m : Int) * (bytes : Int)) := by omega
  by_cases h0 : m = 0
  · subst h0
    have h' : xDO false true 0 z.length [] H = some (v,H') := by simpa [xC6] using h
    obtain ⟨im',io',s1,s2,s3⟩ := xP8 hs h'
    refine ⟨im',io',w,.slice none 0 0,.inl ?_,s1,s2,s3⟩
    simp [execOp,ho,resolve,invoke,builtin,hv,hk,Builtin.append_,run_underlying hu,run_underlying hint,sizeOf,typeInfo,hi,asInt,asIntOf,IntKind.wrap_i64]
  · have hmz : (m == 0) = false := by simpa using h0
    rw [hmz] at h
    have hnz : ¬ (m * i.size = 0) := by rw [hsz]; intro e0; rcases Nat.mul_eq_zero.1 e0 with q | q <;> omega
    have hns : ¬ (281474976710656 < Builtin.nextslicecap m 0 * bytes) := by
      have := growslice_fits (need := m) (old := 0) (bytes := bytes) (by omega) hb1
      omega
    have h63 : ¬ (9223372036854775807 < (m : Int)) := by omega
    have hge : m ≤ grownCap w m 0 e := grownCap_ge w m 0 e
    have hl : zv.cells.size = z.length := by have := hz1.1; simpa using this
    have hrun : (execOp a.eval o).run P w = .ok (.value (.slice (some ⟨w.heap.size,0,none⟩) m (grownCap w m 0 e))) (w.drew.alloc (.cells (madeCells zv.cells (m * zv.cells.size) ++ Builtin.zeroCells zv.cells (grownCap w m 0 e - m)) e)) := by
      simp [execOp,ho,resolve,invoke,builtin,hv,hk,Builtin.append_,run_underlying hu,run_underlying hint,sizeOf,typeInfo,hi,asInt,asIntOf,wl,n1,n2,h0,hby,hns,h63,hnz,zeroValue,hzo,Question.forced,newRow,grownCap,Builtin.firstCells,
        Builtin.zeroCells,madeCells]
    obtain ⟨im',io',s1,s2,s3⟩ := xGZ (cap := grownCap w m 0 e) hs (Pushed.drew w (.cells (madeCells zv.cells (m * zv.cells.size) ++ Builtin.zeroCells zv.cells (grownCap w m 0 e - m)) e)) rfl (xE8 hz1 m)
      (fun c hcm => hz2 c (xGY z _ c hcm))
      (fun j u hu' => by
        have g := xDd hz1 m m (Nat.le_refl _) j u hu'
        rw [← hl] at g
        have hlt := (Array.getElem?_eq_some_iff.1 g).1
        rw [Array.getElem?_append_left hlt]; exact g) hge (by
        have hzc : (Builtin.zeroCells zv.cells (grownCap w m 0 e - m)).size = (grownCap w m 0 e - m) * z.length := by rw [size_zeroCells,hl]
        simp only [Array.size_append,size_madeCells,hzc,hl]
        rw [← Nat.add_mul]
        exact Nat.mul_le_mul_right _ (by omega)) h
    exact ⟨im',io',_,_,.inl hrun,s1,s2,s3⟩
def AOp.plain : AOp → Bool
  | .call .. | .icall .. | .fcall .. | .ocall .. | .ocallw .. | .bcall .. => false
  | _ => true
theorem xZP {op : AOp} (hp : op.plain = true) (hc : xAP P o op = true) (hs : Sim chk im io H w) (hF : FRep im io F a) (h : xAc R F H op = some (v,H')) : Good chk P o a im io w v H' := by
  cases op with
  | mov x => exact xW1 hc hs hF h
  | pick c x y => exact xTz hc hs hF h
  | box x => exact xW0 hc hs hF h
  | build z parts => exact xSx hc hs hF h
  | bslice fz z es n parts => exact xHs hc hs hF h
  | dslice z es n parts => exact xPt hc hs hF h
  | load g n p => exact xTx hc hs hF h
  | store n p x => exact xSw hc hs hF h
  | nilchk x => exact xPw hc hs hF h
  | bin op x y => exact xW3 hc hs hF h
  | beq neg x y => exact xW4 hc hs hF h
  | isnil neg x => exact xSE hc hs hF h
  | un op x => exact xZS hc hs hF h
  | conv k x => exact xTB hc hs hF h
  | mkfunc f caps => exact xPv hc hs hF h
  | mkslice fz z bytes l c => exact xMx hc hs hF h
  | slice es x lo hi mx => exact xSB hc hs hF h
  | faddr off x => exact xSy hc hs hF h
  | field g off n x => exact xSA hc hs hF h
  | iaddr es x i => exact xSz hc hs hF h
  | ext i x => exact xW2 hc hs hF h
  | len x => exact xW7 hc hs hF h
  | cap x => exact xW6 hc hs hF h
  | aeq neg n x y => exact xW5 hc hs hF h
  | append fz es bytes x y => exact xHq hc hs hF h
  | appendz z bytes x n => exact xMv hc hs hF h
  | appendh es bytes x y => exact xMw hc hs hF h
  | copy es x y => simp [xAc] at h
  | maxi x y => exact xTC hc hs hF h
  | mini x y => exact xTD hc hs hF h
  | call f args => cases hp
  | icall f args => cases hp
  | fcall f args => cases hp
  | ocall f args => cases hp
  | ocallw f args => cases hp
  | bcall f args => cases hp
  | mm mx xs => exact xZR hc hs hF h
  | sslice x lo hi => exact xPu hc hs hF h
  | sbeq neg x y => exact xTA hc hs hF h
  | mkbound f first => exact xMB hc hs hF h
  | idx g es len x i => exact xXd hc hs hF h
  | arrat es len x i => exact xSL hc hs hF h
  | garr b es len i => exact xTT hc hs hF h
  | sidx x i => exact xTU hc hs hF h
  | slen x => exact xTV hc hs hF h
  | mkmap => exact xSJ hc hs hF h
  | mlook ks comma z x k => exact xSK hc hs hF h
  | mupd ks m k v => exact xTO hc hs hF h
  | ment ks z m k => exact xTN hc hs hF h
  | mstore m s v => exact xPz hc hs hF h
  | mlen x => exact xTP hc hs hF h
  | mnil neg x => exact xTQ hc hs hF h
  | sbytes fz x => exact xPA hc hs hF h
  | bstr x => exact xTS hc hs hF h
  | sadd x y => exact xTR hc hs hF h
end
end Go.Abs
