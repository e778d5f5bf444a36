/- append of zeros; all operations that call nothing,in one. -/
import Derived.Test.YtkpbekcgigigkaaDoorAbsOp8
import Derived.Test.YtkpbekcgigigkaaDoorAbsHole
namespace Go.Abs
set_option linter.unusedVariables false
set_option linter.unusedSimpArgs false
open Go.RowKit
section
variable {chk : Code → ACode → Bool} {P : Program} {o : Oper} {a : Act} {im : Im} {io : Io} {H H' : Heap} {w : World} {F : List AV} {R : Rec} {v : AV}
theorem xNK {t : TypeId} (h : xRd P t = true) : ∃ k,P.underlying t = some (.int k) := by
  unfold xRd at h
  split at h
  · exact ⟨_,by assumption⟩
  · cases h
theorem xLA {z : List AV} {bytes : Nat} {x n : Arg} (hc : xAp P o (.appendz z bytes x n) = true) (hs : Sim chk im io H w) (hF : FRep im io F a) (h : xAa R F H (.appendz z bytes x n) = some (v,H')) : Good chk P o a im io w v H' := by
  simp only [xAp] at hc
  simp only [xAa] at h
  split at hc
  case h_2 => cases hc
  rename_i xs ts ho
  split at hc
  case h_2 => cases hc
  rename_i x' y' t t' hxs hts
  have hxs' : xs = #[x',y'] := by rw [← Array.toList_inj]; simpa using hxs
  have hts' : ts = #[t,t'] := by rw [← Array.toList_inj]; simpa using hts
  subst hxs'; subst hts'
  simp only [Bool.and_eq_true] at hc
  obtain ⟨⟨⟨hx,hy⟩,hint⟩,hc⟩ := hc
  obtain ⟨ki,hint⟩ := xNK hint
  split at hc
  case h_2 => cases hc
  rename_i e he
  simp only [Bool.and_eq_true,beq_iff_eq,decide_eq_true_eq] at hc
  obtain ⟨⟨⟨h1,h2⟩,hpos⟩,hzz⟩ := hc
  split at hzz
  case h_2 => cases hzz
  rename_i zv hz
  obtain ⟨hz1,hz2⟩ := xB6 (im := im) (io := io) hzz
  have hu := xA0 he
  obtain ⟨i,hi,hsz⟩ := xEB h1
  have hby := xDA hi h2
  have hzo := xEg hi hz
  have rx := xAf hx hF
  have ry := xAf hy hF
  split at h
  case h_2 => cases h
  rename_i m n0 cs0 em e1
  split at h
  case isFalse => cases h
  rename_i hb
  obtain ⟨hb1,hb2,_⟩ := hb
  unfold xA4 at hb1 hb2
  obtain ⟨k,hk⟩ := xAY em ry
  rw [e1] at rx
  generalize hv : a.eval x' = cv at rx
  cases rx
  have wl : IntKind.i64.wrap (m : Int) = m := by rw [IntKind.wrap_i64]; omega
  have n1 : ¬ ((m : Int) < 0) := by omega
  have hbz : ((m : Int)) * (bytes : Int) ≤ 140737488355328 := by
    have : ((m * bytes : Nat) : Int) ≤ 140737488355328 := by omega
    rwa [Int.natCast_mul] at this
  have n2 : ¬ ((281474976710656 : Int) < (m : Int) * (bytes : Int)) := by omega
  by_cases h0 : m = 0
  · subst h0
    have h' : xDb false true 0 z.length [] H = some (v,H') := by simpa [xCF] using h
    obtain ⟨im',io',s1,s2,s3⟩ := xOj hs h'
    refine ⟨im',io',w,.slice none 0 0,.inl ?_,s1,s2,s3⟩
    simp [execOp,ho,resolve,invoke,builtin,hv,hk,Builtin.append_,run_underlying hu,run_underlying hint,sizeOf,typeInfo,hi,asInt,asIntOf,IntKind.wrap_i64]
  · have hmz : (m == 0) = false := by simpa using h0
    rw [hmz] at h
    have hnz : ¬ (m * i.size = 0) := by rw [hsz]; intro e0; rcases Nat.mul_eq_zero.1 e0 with q | q <;> omega
    have hns : ¬ (281474976710656 < Builtin.nextslicecap m 0 * bytes) := by
      have := growslice_fits (need := m) (old := 0) (bytes := bytes) (by omega) hb1
      omega
    have h63 : ¬ (9223372036854775807 < (m : Int)) := by omega
    have hge : m ≤ grownCap w m 0 e := grownCap_ge w m 0 e
    have hl : zv.cells.size = z.length := by have := hz1.1; simpa using this
    have hrun : (execOp a.eval o).run P w = .ok (.value (.slice (some ⟨w.heap.size,0,none⟩) m (grownCap w m 0 e))) (w.drew.alloc (.cells (madeCells zv.cells (m * zv.cells.size) ++ Builtin.zeroCells zv.cells (grownCap w m 0 e - m)) e)) := by
      simp [execOp,ho,resolve,invoke,builtin,hv,hk,Builtin.append_,run_underlying hu,run_underlying hint,sizeOf,typeInfo,hi,asInt,asIntOf,wl,n1,n2,h0,hby,hns,h63,hnz,zeroValue,hzo,Question.forced,newRow,grownCap,Builtin.firstCells,
        Builtin.zeroCells,madeCells]
    obtain ⟨im',io',s1,s2,s3⟩ := xGh (cap := grownCap w m 0 e) hs (Pushed.drew w (.cells (madeCells zv.cells (m * zv.cells.size) ++ Builtin.zeroCells zv.cells (grownCap w m 0 e - m)) e)) rfl (xEz hz1 m)
      (fun c hcm => hz2 c (xGg z _ c hcm))
      (fun j u hu' => by
        have g := xCz hz1 m m (Nat.le_refl _) j u hu'
        rw [← hl] at g
        have hlt := (Array.getElem?_eq_some_iff.1 g).1
        rw [Array.getElem?_append_left hlt]; exact g) hge (by
        have hzc : (Builtin.zeroCells zv.cells (grownCap w m 0 e - m)).size = (grownCap w m 0 e - m) * z.length := by rw [size_zeroCells,hl]
        simp only [Array.size_append,size_madeCells,hzc,hl]
        rw [← Nat.add_mul]
        exact Nat.mul_le_mul_right _ (by omega)) h
    exact ⟨im',io',_,_,.inl hrun,s1,s2,s3⟩
def AOp.plain : AOp → Bool
  | .call .. | .icall .. | .fcall .. | .ocall .. | .ocallw .. | .bcall .. => false
  | _ => true
theorem xWD {op : AOp} (hp : op.plain = true) (hc : xAp P o op = true) (hs : Sim chk im io H w) (hF : FRep im io F a) (h : xAa R F H op = some (v,H')) : Good chk P o a im io w v H' := by
  cases op with
  | mov x => exact xUc hc hs hF h
  | pick c x y => exact xRe hc hs hF h
  | box x => exact xUb hc hs hF h
  | build z parts => exact xQo hc hs hF h
  | bslice fz z es n parts => exact xGM hc hs hF h
  | dslice z es n parts => exact xNP hc hs hF h
  | load g n p => exact xRc hc hs hF h
  | store n p x => exact xQn hc hs hF h
  | nilchk x => exact xNS hc hs hF h
  | bin op x y => exact xUe hc hs hF h
  | beq neg x y => exact xUf hc hs hF h
  | isnil neg x => exact xQv hc hs hF h
  | un op x => exact xWG hc hs hF h
  | conv k x => exact xRg hc hs hF h
  | mkfunc f caps => exact xNR hc hs hF h
  | mkslice fz z bytes l c => exact xLC hc hs hF h
  | slice es x lo hi mx => exact xQs hc hs hF h
  | faddr off x => exact xQp hc hs hF h
  | field g off n x => exact xQr hc hs hF h
  | iaddr es x i => exact xQq hc hs hF h
  | ext i x => exact xUd hc hs hF h
  | len x => exact xUi hc hs hF h
  | cap x => exact xUh hc hs hF h
  | aeq neg n x y => exact xUg hc hs hF h
  | append fz es bytes x y => exact xGK hc hs hF h
  | appendz z bytes x n => exact xLA hc hs hF h
  | appendh es bytes x y => exact xLB hc hs hF h
  | copy es x y => simp [xAa] at h
  | maxi x y => exact xRh hc hs hF h
  | mini x y => exact xRi hc hs hF h
  | call f args => cases hp
  | icall f args => cases hp
  | fcall f args => cases hp
  | ocall f args => cases hp
  | ocallw f args => cases hp
  | bcall f args => cases hp
  | mm mx xs => exact xWF hc hs hF h
  | sslice x lo hi => exact xNQ hc hs hF h
  | sbeq neg x y => exact xRf hc hs hF h
  | mkbound f first => exact xLG hc hs hF h
  | idx g es len x i => exact xUm hc hs hF h
  | arrat es len x i => exact xQD hc hs hF h
  | garr b es len i => exact xRw hc hs hF h
  | sidx x i => exact xRx hc hs hF h
  | slen x => exact xRy hc hs hF h
  | mkmap => exact xQB hc hs hF h
  | mlook ks comma z x k => exact xQC hc hs hF h
  | mupd ks m k v => exact xRr hc hs hF h
  | ment ks z m k => exact xRq hc hs hF h
  | mstore m s v => exact xNV hc hs hF h
  | mlen x => exact xRs hc hs hF h
  | mnil neg x => exact xRt hc hs hF h
  | sbytes fz x => exact xNW hc hs hF h
  | bstr x => exact xRv hc hs hF h
  | sadd x y => exact xRu hc hs hF h
end
end Go.Abs
