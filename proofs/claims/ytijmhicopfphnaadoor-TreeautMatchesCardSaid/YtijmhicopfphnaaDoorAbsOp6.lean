/- append of zeros; all operations that call nothing,in one. -/
import Derived.Test.YtijmhicopfphnaaDoorAbsOp8
import Derived.Test.YtijmhicopfphnaaDoorAbsHole
namespace Go.Abs
set_option linter.unusedVariables false
set_option linter.unusedSimpArgs false
open Go.RowKit
section
variable {chk : Code → ACode → Bool} {P : Program} {o : Oper} {a : Act} {im : Im} {io : Io} {H H' : Heap} {w : World} {F : List AV} {R : Rec} {v : AV}
theorem xQq {t : TypeId} (h : xUM P t = true) : ∃ k,P.underlying t = some (.int k) := by
 unfold xUM at h
 split at h
 ·exact ⟨_,by assumption⟩
 ·cases h
theorem xMX {z : List AV} {bytes : Nat} {x n : Arg} (hc : xA3 P o (.appendz z bytes x n) = true) (hs : Sim chk im io H w) (hF : FRep im io F a) (h : xAg R F H (.appendz z bytes x n) = some (v,H')) : Good chk P o a im io w v H' := by
 simp only [xA3] at hc
 simp only [xAg] at h
 split at hc
 case h_2 => cases hc
 rename_i xs ts ho
 split at hc
 case h_2 => cases hc
 rename_i x' y' t t' hxs hts
 have hxs' : xs = #[x',y'] := by rw [← Array.toList_inj]; simpa using hxs
 have hts' : ts = #[t,t'] := by rw [← Array.toList_inj]; simpa using hts
 subst hxs'; subst hts'
 simp only [Bool.and_eq_true] at hc
 obtain ⟨⟨⟨hx,hy⟩,hint⟩,hc⟩ := hc
 obtain ⟨ki,hint⟩ := xQq hint
 split at hc
 case h_2 => cases hc
 rename_i e he
 simp only [Bool.and_eq_true,beq_iff_eq,decide_eq_true_eq] at hc
 obtain ⟨⟨⟨h1,h2⟩,hpos⟩,hzz⟩ := hc
 split at hzz
 case h_2 => cases hzz
 rename_i zv hz
 obtain ⟨hz1,hz2⟩ := xDo (im := im) (io := io) hzz
 have hu := xBV he
 obtain ⟨i,hi,hsz⟩ := xF1 h1
 have hby := xES hi h2
 have hzo := xFE hi hz
 have rx := xAt hx hF
 have ry := xAt hy hF
 split at h
 case h_3 => cases h
 case h_2 m id off k0 es' em e1 =>
  split at h
  case h_2 => cases h
  rename_i zb cs hH
  split at h
  case isFalse => cases h
  rename_i hb
  obtain ⟨rfl,rfl,hle,hb1,hb2,hm0,_⟩ := hb
  unfold xBH at hb1 hb2
  cases h
  obtain ⟨k,hk⟩ := xBM em ry
  rw [e1] at rx
  generalize hv : a.eval x' = cv at rx
  cases rx with
  | own0 hne => exact absurd rfl hne
  | own hio hcap hszz =>
   rename_i b sz capx
   obtain ⟨hz',c,tt,fr,hfr,g1,g2,g3,g4,g5,g6⟩ := xCl (hs.blk id _ hH) hio
   have him : im b = none := g3
   have hkill := hs.kill id
   have hpre := xEn g4 hle
   have wl : IntKind.i64.wrap (m : Int) = m := by rw [IntKind.wrap_i64]; omega
   have n1 : ¬ ((m : Int) < 0) := by omega
   have hmb : m * bytes ≤ 140737488355328 := Nat.le_trans (Nat.mul_le_mul_right _ (by omega)) hb1
   have hbz : ((m : Int)) * (bytes : Int) ≤ 140737488355328 := by
    have : ((m * bytes : Nat) : Int) ≤ 140737488355328 := by omega
    rwa [Int.natCast_mul] at this
   have n2 : ¬ ((281474976710656 : Int) < (m : Int) * (bytes : Int)) := by omega
   have hnz : ¬ (m * i.size = 0) := by rw [hsz]; intro e0; rcases Nat.mul_eq_zero.1 e0 with q | q <;> omega
   have hnz2 : ¬ (m * z.length = 0) := by rw [← hsz]; exact hnz
   have hl : zv.cells.size = z.length := by have := hz1.1; simpa using this
   have hzl : (Builtin.zeroCells zv.cells m).toList.length = m * z.length := by
    have := size_zeroCells zv.cells m
    rw [hl] at this
    simpa using this
   have hzr : Reps im io (xC8 z m) (Builtin.zeroCells zv.cells m).toList := by
    have hr0 := xET hz1 m
    refine ⟨by rw [hzl,xEi],fun j cv y hc' hy' => ?_⟩
    obtain ⟨y',e1',e2'⟩ := hr0.get hc'
    have g := xCY hz1 m m (Nat.le_refl _) j y' e1'
    have e3 : madeCells zv.cells (m * z.length) = Builtin.zeroCells zv.cells m := by rw [← hl]; rfl
    rw [e3,← Array.getElem?_toList,hy'] at g
    cases g
    exact e2'
   generalize hvs : (Builtin.zeroCells zv.cells m).toList = vs at hzl hzr
   have hzc : Builtin.zeroCells zv.cells m = vs.toArray := by rw [← hvs]
   have hrs : Reps im io (cs.take (k0 * z.length) ++ xC8 z m) (c.toList.take (k0 * z.length) ++ vs) := hpre.append hzr
   have hks : ∀ c ∈ cs.take (k0 * z.length) ++ xC8 z m,AV.isCell c = true := fun c hcm => by
    rcases List.mem_append.1 hcm with q | q
    ·exact g6 c (List.mem_of_mem_take q)
    ·exact hz2 c (xFg z _ c q)
   have hpl : (c.toList.take (k0 * z.length)).length = k0 * z.length := by simp; omega
   have hlen2 : (H.set id .dead).length = H.length := by simp
   by_cases hroom : k0 + m ≤ capx
   ·have hfit : k0 * z.length + vs.length ≤ c.size := by
     rw [hzl,← Nat.add_mul]
     have : (k0 + m) * z.length ≤ capx * z.length := Nat.mul_le_mul_right _ hroom
     omega
    have hst := xCp (P := P) b (k0 * z.length) tt fr vs 0 c w g2 hfr (by omega) (xHy hzr (fun c hcm => hz2 c (xFg z _ c hcm)))
    simp only [Nat.add_zero] at hst
    have hrun : (execOp a.eval o).run P w = .ok (.value (.slice (some ⟨b,0,none⟩) (k0 + m) capx)) (w.setRow b (c.toList.take (k0 * z.length) ++ vs ++ c.toList.drop (k0 * z.length + vs.length)).toArray) := by
     simp [execOp,ho,resolve,invoke,builtin,hv,hk,Builtin.append_,run_underlying hu,run_underlying hint,sizeOf,typeInfo,hi,asInt,asIntOf,wl,n1,n2,hby,hnz,hnz2,zeroValue,hzo,hzc,hroom,hsz,Addr.add_lit,hst]
    have hsize : ((c.toList.take (k0 * z.length) ++ vs ++ c.toList.drop (k0 * z.length + vs.length)).toArray).size = c.size := by
     simp
     omega
    obtain ⟨s1,s2⟩ := xUJ hkill (b := b) (c := c) (c' := (c.toList.take (k0 * z.length) ++ vs ++ c.toList.drop (k0 * z.length + vs.length)).toArray) (t := tt) (id := id) (by rw [← g1]; exact hio) him hfr g2
     (fun j bj sj hj lj hbj => by
      rw [List.getElem?_set] at hj
      split at hj
      ·split at hj
       ·cases hj; cases lj
       ·cases hj
      ·rename_i hne
       exact hne (hs.inj id j _ bj b _ sj hH hj rfl lj hio hbj)) hsize hrs hks
     (fun k u hu' => by
      have hlt := (List.getElem?_eq_some_iff.1 hu').1
      rw [← Array.getElem?_toList,List.toList_toArray,List.getElem?_append_left hlt]; exact hu')
    rw [hlen2] at s1 s2
    exact ⟨_,_,_,_,.inl hrun,s2,s1,.own (xBr _ _ _) hroom (by
     have : capx * z.length ≤ c.size := by omega
     omega)⟩
   ·have holds : (Builtin.firstCells i.size k0 (.slice (some ⟨b,0,none⟩) k0 capx)).run P w.drew = .ok (c.toList.take (k0 * z.length)).toArray w.drew := by
     rw [hsz]
     exact run_firstCells_some w.drew z.length k0 ⟨b,0,none⟩ k0 capx _ hpl (fun j u hj => by
      rw [Addr.add_lit,Nat.zero_add]
      have hlt : j < k0 * z.length := by have := (List.getElem?_eq_some_iff.1 hj).1; omega
      rw [List.getElem?_take_of_lt hlt,Array.getElem?_toList] at hj
      have := xCE (w := w) g2 j
      rw [hj] at this
      simpa using this)
    have hns : ¬ (281474976710656 < Builtin.nextslicecap (k0 + m) capx * bytes) := by
     have := growslice_fits (need := k0 + m) (old := capx) (bytes := bytes) (by omega) (by omega)
     omega
    have h63 : ¬ (9223372036854775807 < (k0 : Int) + (m : Int)) := by omega
    have hge : k0 + m ≤ grownCap w (k0 + m) capx e := grownCap_ge w (k0 + m) capx e
    have hrun : (execOp a.eval o).run P w = .ok (.value (.slice (some ⟨w.heap.size,0,none⟩) (k0 + m) (grownCap w (k0 + m) capx e))) (w.drew.alloc (.cells ((c.toList.take (k0 * z.length) ++ vs).toArray ++ Builtin.zeroCells zv.cells (grownCap w (k0 + m) capx e - (k0 + m))) e)) := by
     simp [execOp,ho,resolve,invoke,builtin,hv,hk,Builtin.append_,run_underlying hu,run_underlying hint,sizeOf,typeInfo,hi,asInt,asIntOf,wl,n1,n2,hroom,hby,hns,h63,hnz,zeroValue,hzo,Question.forced,newRow,grownCap,holds,hzc]
     rw [← Array.append_assoc]
     simp
    obtain ⟨s1,s2⟩ := xF2 hkill (Pushed.drew w (.cells ((c.toList.take (k0 * z.length) ++ vs).toArray ++ Builtin.zeroCells zv.cells (grownCap w (k0 + m) capx e - (k0 + m))) e)) (.inl rfl) hrs hks
     (fun k u hu' => by
      have hlt := (List.getElem?_eq_some_iff.1 hu').1
      rw [Array.getElem?_append_left (by simpa using hlt)]
      simpa using hu')
    rw [hlen2] at s1 s2
    refine ⟨_,_,_,_,.inl hrun,s2,s1,.own (xBr _ _ _) hge ?_⟩
    have hzc2 : (Builtin.zeroCells zv.cells (grownCap w (k0 + m) capx e - (k0 + m))).size = (grownCap w (k0 + m) capx e - (k0 + m)) * z.length := by rw [size_zeroCells,hl]
    simp only [Array.size_append,List.size_toArray,List.length_append,hpl,hzl,hzc2]
    rw [← Nat.add_mul,← Nat.add_mul,Nat.zero_add]
    exact Nat.mul_le_mul_right _ (by omega)
 rename_i m n0 cs0 em e1
 split at h
 case isFalse => cases h
 rename_i hb
 obtain ⟨hb1,hb2,_⟩ := hb
 unfold xBH at hb1 hb2
 obtain ⟨k,hk⟩ := xBM em ry
 rw [e1] at rx
 generalize hv : a.eval x' = cv at rx
 cases rx
 have wl : IntKind.i64.wrap (m : Int) = m := by rw [IntKind.wrap_i64]; omega
 have n1 : ¬ ((m : Int) < 0) := by omega
 have hbz : ((m : Int)) * (bytes : Int) ≤ 140737488355328 := by
  have : ((m * bytes : Nat) : Int) ≤ 140737488355328 := by omega
  rwa [Int.natCast_mul] at this
 have n2 : ¬ ((281474976710656 : Int) < (m : Int) * (bytes : Int)) := by omega
 by_cases h0 : m = 0
 ·subst h0
  have h' : xEu false true 0 z.length [] H = some (v,H') := by simpa [xC8] using h
  obtain ⟨im',io',s1,s2,s3⟩ := xQ9 hs h'
  refine ⟨im',io',w,.slice none 0 0,.inl ?_,s1,s2,s3⟩
  simp [execOp,ho,resolve,invoke,builtin,hv,hk,Builtin.append_,run_underlying hu,run_underlying hint,sizeOf,typeInfo,hi,asInt,asIntOf,IntKind.wrap_i64]
 ·have hmz : (m == 0) = false := by simpa using h0
  rw [hmz] at h
  have hnz : ¬ (m * i.size = 0) := by rw [hsz]; intro e0; rcases Nat.mul_eq_zero.1 e0 with q | q <;> omega
  have hns : ¬ (281474976710656 < Builtin.nextslicecap m 0 * bytes) := by
   have := growslice_fits (need := m) (old := 0) (bytes := bytes) (by omega) hb1
   omega
  have h63 : ¬ (9223372036854775807 < (m : Int)) := by omega
  have hge : m ≤ grownCap w m 0 e := grownCap_ge w m 0 e
  have hl : zv.cells.size = z.length := by have := hz1.1; simpa using this
  have hrun : (execOp a.eval o).run P w = .ok (.value (.slice (some ⟨w.heap.size,0,none⟩) m (grownCap w m 0 e))) (w.drew.alloc (.cells (madeCells zv.cells (m * zv.cells.size) ++ Builtin.zeroCells zv.cells (grownCap w m 0 e - m)) e)) := by
   simp [execOp,ho,resolve,invoke,builtin,hv,hk,Builtin.append_,run_underlying hu,run_underlying hint,sizeOf,typeInfo,hi,asInt,asIntOf,wl,n1,n2,h0,hby,hns,h63,hnz,zeroValue,hzo,Question.forced,newRow,grownCap,Builtin.firstCells,
    Builtin.zeroCells,madeCells]
  obtain ⟨im',io',s1,s2,s3⟩ := xHx (cap := grownCap w m 0 e) hs (Pushed.drew w (.cells (madeCells zv.cells (m * zv.cells.size) ++ Builtin.zeroCells zv.cells (grownCap w m 0 e - m)) e)) rfl (xET hz1 m)
   (fun c hcm => hz2 c (xFg z _ c hcm))
   (fun j u hu' => by
    have g := xCY hz1 m m (Nat.le_refl _) j u hu'
    rw [← hl] at g
    have hlt := (Array.getElem?_eq_some_iff.1 g).1
    rw [Array.getElem?_append_left hlt]; exact g) hge (by
    have hzc : (Builtin.zeroCells zv.cells (grownCap w m 0 e - m)).size = (grownCap w m 0 e - m) * z.length := by rw [size_zeroCells,hl]
    simp only [Array.size_append,size_madeCells,hzc,hl]
    rw [← Nat.add_mul]
    exact Nat.mul_le_mul_right _ (by omega)) h
  exact ⟨im',io',_,_,.inl hrun,s1,s2,s3⟩
def AOp.plain : AOp → Bool
 | .call .. | .icall .. | .fcall .. | .ocall .. | .ocallw .. | .ofcall .. | .bcall .. => false
 | _ => true
theorem yBI {op : AOp} (hp : op.plain = true) (hc : xA3 P o op = true) (hs : Sim chk im io H w) (hF : FRep im io F a) (h : xAg R F H op = some (v,H')) : Good chk P o a im io w v H' := by
 cases op with
 | mov x => exact xYr hc hs hF h
 | pick c x y => exact xUN hc hs hF h
 | box x => exact xYq hc hs hF h
 | build z parts => exact xTJ hc hs hF h
 | bslice fz z es n parts => exact xH3 hc hs hF h
 | dslice z es n parts => exact xQv hc hs hF h
 | load g n p => exact xUL hc hs hF h
 | store n p x => exact xTI hc hs hF h
 | nilchk x => exact xQy hc hs hF h
 | bin op x y => exact xYt hc hs hF h
 | beq neg x y => exact xYu hc hs hF h
 | isnil neg x => exact xTQ hc hs hF h
 | un op x => exact yBK hc hs hF h
 | conv k x => exact xUP hc hs hF h
 | mkfunc f caps => exact xQx hc hs hF h
 | mkslice fz z bytes l c => exact xMZ hc hs hF h
 | slice es x lo hi mx => exact xTN hc hs hF h
 | faddr off x => exact xTK hc hs hF h
 | field g off n x => exact xTM hc hs hF h
 | iaddr es x i => exact xTL hc hs hF h
 | ext i x => exact xYs hc hs hF h
 | len x => exact xYx hc hs hF h
 | cap x => exact xYw hc hs hF h
 | aeq neg n x y => exact xYv hc hs hF h
 | append fz es bytes x y => exact xH1 hc hs hF h
 | appendz z bytes x n => exact xMX hc hs hF h
 | appendh es bytes x y => exact xMY hc hs hF h
 | copy es x y => simp [xAg] at h
 | maxi x y => exact xUQ hc hs hF h
 | mini x y => exact xUR hc hs hF h
 | call f args => cases hp
 | icall f args => cases hp
 | fcall f args => cases hp
 | ocall f args => cases hp
 | ocallw f args => cases hp
 | ofcall f args => cases hp
 | bcall f args => cases hp
 | mm mx xs => exact yBJ hc hs hF h
 | sslice x lo hi => exact xQw hc hs hF h
 | sbeq neg x y => exact xUO hc hs hF h
 | mkbound f first => exact xM3 hc hs hF h
 | idx g es len x i => exact xYC hc hs hF h
 | arrat es len x i => exact xTY hc hs hF h
 | garr b es len i => exact xU8 hc hs hF h
 | sidx x i => exact xU9 hc hs hF h
 | slen x => exact xVa hc hs hF h
 | mkmap => exact xTW hc hs hF h
 | mlook ks comma z x k => exact xTX hc hs hF h
 | mupd ks m k v => exact xU2 hc hs hF h
 | ment ks z m k => exact xU1 hc hs hF h
 | mstore m s v => exact xQB hc hs hF h
 | mlen x => exact xU3 hc hs hF h
 | mnil neg x => exact xU4 hc hs hF h
 | pnil neg x => exact xU5 hc hs hF h
 | sbytes fz x => exact xQC hc hs hF h
 | bstr x => exact xU7 hc hs hF h
 | sadd x y => exact xU6 hc hs hF h
end
end Go.Abs
