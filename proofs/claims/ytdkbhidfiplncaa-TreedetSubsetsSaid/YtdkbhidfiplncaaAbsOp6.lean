/- append of zeros; all operations that call nothing,in one. -/
import Derived.Test.YtdkbhidfiplncaaAbsOp8
namespace Go.Abs
set_option linter.unusedVariables false
set_option linter.unusedSimpArgs false
open Go.RowKit

section
variable {chk : Code → ACode → Bool} {P : Program} {o : Oper} {a : Act} {im : Im} {io : Io} {H H' : xAv} {w : World} {F : List AV} {R : Rec} {v : AV}

theorem xNK {t : TypeId} (h : xR0 P t = true) : ∃ k,P.underlying t = some (.int k) := by
  unfold xR0 at h
  split at h
  · exact ⟨_,by assumption⟩
  · cases h

theorem xMN {z : List AV} {bytes : Nat} {x n : Arg} (hc : xBB P o (.appendz z bytes x n) = true) (hs : Sim chk im io H w) (hF : FRep im io F a) (h : xAn R F H (.appendz z bytes x n) = some (v,H')) : Good chk P o a im io w v H' := by
  simp only [xBB] at hc
  simp only [xAn] at h
  split at hc
  case h_2 => cases hc
  rename_i xs ts ho
  split at hc
  case h_2 => cases hc
  rename_i x' y' t t' hxs hts
  have hxs' : xs = #[x',y'] := by rw [← Array.toList_inj]; simpa using hxs
  have hts' : ts = #[t,t'] := by rw [← Array.toList_inj]; simpa using hts
  subst hxs'; subst hts'
  simp only [Bool.and_eq_true] at hc
  obtain ⟨⟨⟨hx,hy⟩,hint⟩,hc⟩ := hc
  obtain ⟨ki,hint⟩ := xNK hint
  split at hc
  case h_2 => cases hc
  rename_i e he
  simp only [Bool.and_eq_true,beq_iff_eq,decide_eq_true_eq] at hc
  obtain ⟨⟨⟨h1,h2⟩,hpos⟩,hzz⟩ := hc
  split at hzz
  case h_2 => cases hzz
  rename_i zv hz
  obtain ⟨hz1,hz2⟩ := xEe (im := im) (io := io) hzz
  have hu := xCH he
  obtain ⟨i,hi,hsz⟩ := xG0 h1
  have hby := xFB hi h2
  have hzo := xGu hi hz
  have rx := xAO hx hF
  have ry := xAO hy hF
  split at h
  case h_2 => cases h
  rename_i m n0 cs0 em e1
  split at h
  case isFalse => cases h
  rename_i hb
  obtain ⟨hb1,hb2,_⟩ := hb
  unfold xCT at hb1 hb2
  obtain ⟨k,hk⟩ := xCD em ry
  rw [e1] at rx
  generalize hv : a.eval x' = cv at rx
  cases rx
  have wl : IntKind.i64.wrap (m : Int) = m := by rw [IntKind.wrap_i64]; omega
  have n1 : ¬ ((m : Int) < 0) := by omega
  have hbz : ((m : Int)) * (bytes : Int) ≤ 140737488355328 := by
    have : ((m * bytes : Nat) : Int) ≤ 140737488355328 := by omega
    rwa [Int.natCast_mul] at this
  have n2 : ¬ ((281474976710656 : Int) < (m : Int) * (bytes : Int)) := by omega
  by_cases h0 : m = 0
  · subst h0
    have h' : xFi false true 0 z.length [] H = some (v,H') := by simpa [xEE] using h
    obtain ⟨im',io',s1,s2,s3⟩ := xO1 hs h'
    refine ⟨im',io',w,.slice none 0 0,.inl ?_,s1,s2,s3⟩
    simp [execOp,ho,resolve,invoke,builtin,hv,hk,Builtin.append_,run_underlying hu,run_underlying hint,sizeOf,typeInfo,hi,asInt,asIntOf,IntKind.wrap_i64]
  · have hmz : (m == 0) = false := by simpa using h0
    rw [hmz] at h
    have hnz : ¬ (m * i.size = 0) := by rw [hsz]; intro e0; rcases Nat.mul_eq_zero.1 e0 with q | q <;> omega
    have hns : ¬ (281474976710656 < Builtin.nextslicecap m 0 * bytes) := by
      have := growslice_fits (need := m) (old := 0) (bytes := bytes) (by omega) hb1
      omega
    have h63 : ¬ (9223372036854775807 < (m : Int)) := by omega
    have hge : m ≤ grownCap w m 0 e := grownCap_ge w m 0 e
    have hl : zv.cells.size = z.length := by have := hz1.1; simpa using this
    have hrun : (execOp a.eval o).run P w = .ok (.value (.slice (some ⟨w.heap.size,0,none⟩) m (grownCap w m 0 e))) (w.drew.alloc (.cells (madeCells zv.cells (m * zv.cells.size) ++ Builtin.zeroCells zv.cells (grownCap w m 0 e - m)) e)) := by
      simp [execOp,ho,resolve,invoke,builtin,hv,hk,Builtin.append_,run_underlying hu,run_underlying hint,sizeOf,typeInfo,hi,asInt,asIntOf,wl,n1,n2,h0,hby,hns,h63,hnz,zeroValue,hzo,Question.forced,newRow,grownCap,Builtin.firstCells,
        Builtin.zeroCells,madeCells]
    obtain ⟨im',io',s1,s2,s3⟩ := xHZ (cap := grownCap w m 0 e) hs (Pushed.drew w (.cells (madeCells zv.cells (m * zv.cells.size) ++ Builtin.zeroCells zv.cells (grownCap w m 0 e - m)) e)) rfl (xGY hz1 m)
      (fun c hcm => hz2 c (xHY z _ c hcm))
      (fun j u hu' => by
        have g := xEC hz1 m m (Nat.le_refl _) j u hu'
        rw [← hl] at g
        have hlt := (Array.getElem?_eq_some_iff.1 g).1
        rw [Array.getElem?_append_left hlt]; exact g) hge (by
        have hzc : (Builtin.zeroCells zv.cells (grownCap w m 0 e - m)).size = (grownCap w m 0 e - m) * z.length := by rw [size_zeroCells,hl]
        simp only [Array.size_append,size_madeCells,hzc,hl]
        rw [← Nat.add_mul]
        exact Nat.mul_le_mul_right _ (by omega)) h
    exact ⟨im',io',_,_,.inl hrun,s1,s2,s3⟩

def AOp.plain : AOp → Bool
  | .call .. | .icall .. | .fcall .. | .ocall .. | .ocallw .. | .bcall .. => false
  | _ => true

theorem xXc {op : AOp} (hp : op.plain = true) (hc : xBB P o op = true) (hs : Sim chk im io H w) (hF : FRep im io F a) (h : xAn R F H op = some (v,H')) : Good chk P o a im io w v H' := by
  cases op with
  | mov x => exact xT5 hc hs hF h
  | pick c x y => exact xR1 hc hs hF h
  | box x => exact xT4 hc hs hF h
  | build z parts => exact xPP hc hs hF h
  | bslice fz z es n parts => exact xNR hc hs hF h
  | load g n p => exact xRZ hc hs hF h
  | store n p x => exact xPO hc hs hF h
  | nilchk x => exact xNU hc hs hF h
  | bin op x y => exact xT7 hc hs hF h
  | beq neg x y => exact xT8 hc hs hF h
  | isnil neg x => exact xPU hc hs hF h
  | un op x => exact xXg hc hs hF h
  | conv k x => exact xR3 hc hs hF h
  | mkfunc f caps => exact xNT hc hs hF h
  | mkslice fz z bytes l c => exact xMU hc hs hF h
  | slice es x lo hi mx => exact xPT hc hs hF h
  | faddr off x => exact xPQ hc hs hF h
  | field g off n x => exact xPS hc hs hF h
  | iaddr es x i => exact xPR hc hs hF h
  | ext i x => exact xT6 hc hs hF h
  | len x => exact xUb hc hs hF h
  | cap x => exact xUa hc hs hF h
  | aeq neg n x y => exact xT9 hc hs hF h
  | append fz es bytes x y => exact xNN hc hs hF h
  | appendz z bytes x n => exact xMN hc hs hF h
  | copy es x y => simp [xAn] at h
  | maxi x y => exact xR4 hc hs hF h
  | mini x y => exact xR5 hc hs hF h
  | call f args => cases hp
  | icall f args => cases hp
  | fcall f args => cases hp
  | ocall f args => cases hp
  | ocallw f args => cases hp
  | bcall f args => cases hp
  | mm mx xs => exact xXf hc hs hF h
  | sslice x lo hi => exact xNS hc hs hF h
  | sbeq neg x y => exact xR2 hc hs hF h
  | mkbound f first => exact xMY hc hs hF h
  | idx g es len x i => exact xT3 hc hs hF h
  | arrat es len x i => exact xPN hc hs hF h
  | garr b es len i => exact xRW hc hs hF h
  | sidx x i => exact xRX hc hs hF h
  | slen x => exact xRY hc hs hF h
  | mkmap => exact xPL hc hs hF h
  | mlook ks comma z x k => exact xPM hc hs hF h
  | mupd ks m k v => exact xRR hc hs hF h
  | mlen x => exact xRS hc hs hF h
  | mnil neg x => exact xRT hc hs hF h
  | sbytes fz x => exact xNL hc hs hF h
  | bstr x => exact xRV hc hs hF h
  | sadd x y => exact xRU hc hs hF h

end
end Go.Abs
