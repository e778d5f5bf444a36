/- append of zeros; all operations that call nothing,in one. -/
import Derived.Test.YtijmhicopfphnaaDoorAbsOp8
import Derived.Test.YtijmhicopfphnaaDoorAbsHole
namespace Go.Abs
set_option linter.unusedVariables false
set_option linter.unusedSimpArgs false
open Go.RowKit
section
variable {chk : Code → ACode → Bool} {P : Program} {o : Oper} {a : Act} {im : Im} {io : Io} {H H' : Heap} {w : World} {F : List AV} {R : Rec} {v : AV}
theorem xTa {t : TypeId} (h : xWz P t = true) : ∃ k,P.underlying t = some (.int k) := by
 unfold xWz at h
 split at h
 ·exact ⟨_,by assumption⟩
 ·cases h
theorem xQR {z : List AV} {bytes : Nat} {x n : Arg} (hc : xAI P o (.appendz z bytes x n) = true) (hs : Sim chk im io H w) (hF : FRep im io F a) (h : xAc R F H (.appendz z bytes x n) = some (v,H')) : Good chk P o a im io w v H' := by
 simp only [xAI] at hc
 simp only [xAc] at h
 split at hc
 case h_2 => cases hc
 rename_i xs ts ho
 split at hc
 case h_2 => cases hc
 rename_i x' y' t t' hxs hts
 have hxs' : xs = #[x',y'] := by rw [← Array.toList_inj]; simpa using hxs
 have hts' : ts = #[t,t'] := by rw [← Array.toList_inj]; simpa using hts
 subst hxs'; subst hts'
 simp only [Bool.and_eq_true] at hc
 obtain ⟨⟨⟨hx,hy⟩,hint⟩,hc⟩ := hc
 obtain ⟨ki,hint⟩ := xTa hint
 split at hc
 case h_2 => cases hc
 rename_i e he
 simp only [Bool.and_eq_true,beq_iff_eq,decide_eq_true_eq] at hc
 obtain ⟨⟨⟨h1,h2⟩,hpos⟩,hzz⟩ := hc
 split at hzz
 case h_2 => cases hzz
 rename_i zv hz
 obtain ⟨hz1,hz2⟩ := xJt (im := im) (io := io) hzz
 have hu := xGN he
 obtain ⟨i,hi,hsz⟩ := xMd h1
 have hby := xK4 hi h2
 have hzo := xLS hi hz
 have rx := xAj hx hF
 have ry := xAj hy hF
 split at h
 case h_3 => cases h
 case h_2 m id off k0 es' em e1 =>
  split at h
  case h_2 => cases h
  rename_i zb cs hH
  split at h
  case isFalse => cases h
  rename_i hb
  obtain ⟨rfl,rfl,hle,hb1,hb2,hm0,_⟩ := hb
  unfold xFr at hb1 hb2
  cases h
  obtain ⟨k,hk⟩ := xGc em ry
  rw [e1] at rx
  generalize hv : a.eval x' = cv at rx
  cases rx with
  | own0 hne => exact absurd rfl hne
  | own hio hcap hszz =>
   rename_i b sz capx
   obtain ⟨hz',c,tt,fr,hfr,g1,g2,g3,g4,g5,g6⟩ := xH3 (hs.blk id _ hH) hio
   have him : im b = none := g3
   have hkill := hs.kill id
   have hpre := xKB g4 hle
   have wl : IntKind.i64.wrap (m : Int) = m := by rw [IntKind.wrap_i64]; omega
   have n1 : ¬ ((m : Int) < 0) := by omega
   have hmb : m * bytes ≤ 140737488355328 := Nat.le_trans (Nat.mul_le_mul_right _ (by omega)) hb1
   have hbz : ((m : Int)) * (bytes : Int) ≤ 140737488355328 := by
    have : ((m * bytes : Nat) : Int) ≤ 140737488355328 := by omega
    rwa [Int.natCast_mul] at this
   have n2 : ¬ ((281474976710656 : Int) < (m : Int) * (bytes : Int)) := by omega
   have hnz : ¬ (m * i.size = 0) := by rw [hsz]; intro e0; rcases Nat.mul_eq_zero.1 e0 with q | q <;> omega
   have hnz2 : ¬ (m * z.length = 0) := by rw [← hsz]; exact hnz
   have hl : zv.cells.size = z.length := by have := hz1.1; simpa using this
   have hzl : (Builtin.zeroCells zv.cells m).toList.length = m * z.length := by
    have := size_zeroCells zv.cells m
    rw [hl] at this
    simpa using this
   have hzr : Reps im io (xJf z m) (Builtin.zeroCells zv.cells m).toList := by
    have hr0 := xK5 hz1 m
    refine ⟨by rw [hzl,xKs],fun j cv y hc' hy' => ?_⟩
    obtain ⟨y',e1',e2'⟩ := hr0.get hc'
    have g := xIU hz1 m m (Nat.le_refl _) j y' e1'
    have e3 : madeCells zv.cells (m * z.length) = Builtin.zeroCells zv.cells m := by rw [← hl]; rfl
    rw [e3,← Array.getElem?_toList,hy'] at g
    cases g
    exact e2'
   generalize hvs : (Builtin.zeroCells zv.cells m).toList = vs at hzl hzr
   have hzc : Builtin.zeroCells zv.cells m = vs.toArray := by rw [← hvs]
   have hrs : Reps im io (cs.take (k0 * z.length) ++ xJf z m) (c.toList.take (k0 * z.length) ++ vs) := hpre.append hzr
   have hks : ∀ c ∈ cs.take (k0 * z.length) ++ xJf z m,AV.isCell c = true := fun c hcm => by
    rcases List.mem_append.1 hcm with q | q
    ·exact g6 c (List.mem_of_mem_take q)
    ·exact hz2 c (xLp z _ c q)
   have hpl : (c.toList.take (k0 * z.length)).length = k0 * z.length := by simp; omega
   have hlen2 : (H.set id .dead).length = H.length := by simp
   by_cases hroom : k0 + m ≤ capx
   ·have hfit : k0 * z.length + vs.length ≤ c.size := by
     rw [hzl,← Nat.add_mul]
     have : (k0 + m) * z.length ≤ capx * z.length := Nat.mul_le_mul_right _ hroom
     omega
    have hst := xHW (P := P) b (k0 * z.length) tt fr vs 0 c w g2 hfr (by omega) (xNm hzr (fun c hcm => hz2 c (xLp z _ c hcm)))
    simp only [Nat.add_zero] at hst
    have hrun : (execOp a.eval o).run P w = .ok (.value (.slice (some ⟨b,0,none⟩) (k0 + m) capx)) (w.setRow b (c.toList.take (k0 * z.length) ++ vs ++ c.toList.drop (k0 * z.length + vs.length)).toArray) := by
     simp [execOp,ho,resolve,invoke,builtin,hv,hk,Builtin.append_,run_underlying hu,run_underlying hint,sizeOf,typeInfo,hi,asInt,asIntOf,wl,n1,n2,hby,hnz,hnz2,zeroValue,hzo,hzc,hroom,hsz,Addr.add_lit,hst]
    have hsize : ((c.toList.take (k0 * z.length) ++ vs ++ c.toList.drop (k0 * z.length + vs.length)).toArray).size = c.size := by
     simp
     omega
    obtain ⟨s1,s2⟩ := xWx hkill (b := b) (c := c) (c' := (c.toList.take (k0 * z.length) ++ vs ++ c.toList.drop (k0 * z.length + vs.length)).toArray) (t := tt) (id := id) (by rw [← g1]; exact hio) him hfr g2
     (fun j bj sj hj lj hbj => by
      rw [List.getElem?_set] at hj
      split at hj
      ·split at hj
       ·cases hj; cases lj
       ·cases hj
      ·rename_i hne
       exact hne (hs.inj id j _ bj b _ sj hH hj rfl lj hio hbj)) hsize hrs hks
     (fun k u hu' => by
      have hlt := (List.getElem?_eq_some_iff.1 hu').1
      rw [← Array.getElem?_toList,List.toList_toArray,List.getElem?_append_left hlt]; exact hu')
    rw [hlen2] at s1 s2
    exact ⟨_,_,_,_,.inl hrun,s2,s1,.own (xGm _ _ _) hroom (by
     have : capx * z.length ≤ c.size := by omega
     omega)⟩
   ·have holds : (Builtin.firstCells i.size k0 (.slice (some ⟨b,0,none⟩) k0 capx)).run P w.drew = .ok (c.toList.take (k0 * z.length)).toArray w.drew := by
     rw [hsz]
     exact run_firstCells_some w.drew z.length k0 ⟨b,0,none⟩ k0 capx _ hpl (fun j u hj => by
      rw [Addr.add_lit,Nat.zero_add]
      have hlt : j < k0 * z.length := by have := (List.getElem?_eq_some_iff.1 hj).1; omega
      rw [List.getElem?_take_of_lt hlt,Array.getElem?_toList] at hj
      have := xId (w := w) g2 j
      rw [hj] at this
      simpa using this)
    have hns : ¬ (281474976710656 < Builtin.nextslicecap (k0 + m) capx * bytes) := by
     have := growslice_fits (need := k0 + m) (old := capx) (bytes := bytes) (by omega) (by omega)
     omega
    have h63 : ¬ (9223372036854775807 < (k0 : Int) + (m : Int)) := by omega
    have hge : k0 + m ≤ grownCap w (k0 + m) capx e := grownCap_ge w (k0 + m) capx e
    have hrun : (execOp a.eval o).run P w = .ok (.value (.slice (some ⟨w.heap.size,0,none⟩) (k0 + m) (grownCap w (k0 + m) capx e))) (w.drew.alloc (.cells ((c.toList.take (k0 * z.length) ++ vs).toArray ++ Builtin.zeroCells zv.cells (grownCap w (k0 + m) capx e - (k0 + m))) e)) := by
     simp [execOp,ho,resolve,invoke,builtin,hv,hk,Builtin.append_,run_underlying hu,run_underlying hint,sizeOf,typeInfo,hi,asInt,asIntOf,wl,n1,n2,hroom,hby,hns,h63,hnz,zeroValue,hzo,Question.forced,newRow,grownCap,holds,hzc]
     rw [← Array.append_assoc]
     simp
    obtain ⟨s1,s2⟩ := xMe hkill (Pushed.drew w (.cells ((c.toList.take (k0 * z.length) ++ vs).toArray ++ Builtin.zeroCells zv.cells (grownCap w (k0 + m) capx e - (k0 + m))) e)) (.inl rfl) hrs hks
     (fun k u hu' => by
      have hlt := (List.getElem?_eq_some_iff.1 hu').1
      rw [Array.getElem?_append_left (by simpa using hlt)]
      simpa using hu')
    rw [hlen2] at s1 s2
    refine ⟨_,_,_,_,.inl hrun,s2,s1,.own (xGm _ _ _) hge ?_⟩
    have hzc2 : (Builtin.zeroCells zv.cells (grownCap w (k0 + m) capx e - (k0 + m))).size = (grownCap w (k0 + m) capx e - (k0 + m)) * z.length := by rw [size_zeroCells,hl]
    simp only [Array.size_append,List.size_toArray,List.length_append,hpl,hzl,hzc2]
    rw [← Nat.add_mul,← Nat.add_mul,Nat.zero_add]
    exact Nat.mul_le_mul_right _ (by omega)
 rename_i m n0 cs0 em e1
 split at h
 case isFalse => cases h
 rename_i hb
 obtain ⟨hb1,hb2,_⟩ := hb
 unfold xFr at hb1 hb2
 obtain ⟨k,hk⟩ := xGc em ry
 rw [e1] at rx
 generalize hv : a.eval x' = cv at rx
 cases rx
 have wl : IntKind.i64.wrap (m : Int) = m := by rw [IntKind.wrap_i64]; omega
 have n1 : ¬ ((m : Int) < 0) := by omega
 have hbz : ((m : Int)) * (bytes : Int) ≤ 140737488355328 := by
  have : ((m * bytes : Nat) : Int) ≤ 140737488355328 := by omega
  rwa [Int.natCast_mul] at this
 have n2 : ¬ ((281474976710656 : Int) < (m : Int) * (bytes : Int)) := by omega
 by_cases h0 : m = 0
 ·subst h0
  have h' : xLr false true 0 z.length [] H = some (v,H') := by simpa [xJf] using h
  obtain ⟨im',io',s1,s2,s3⟩ := xTY hs h'
  refine ⟨im',io',w,.slice none 0 0,.inl ?_,s1,s2,s3⟩
  simp [execOp,ho,resolve,invoke,builtin,hv,hk,Builtin.append_,run_underlying hu,run_underlying hint,sizeOf,typeInfo,hi,asInt,asIntOf,IntKind.wrap_i64]
 ·have hmz : (m == 0) = false := by simpa using h0
  rw [hmz] at h
  have hnz : ¬ (m * i.size = 0) := by rw [hsz]; intro e0; rcases Nat.mul_eq_zero.1 e0 with q | q <;> omega
  have hns : ¬ (281474976710656 < Builtin.nextslicecap m 0 * bytes) := by
   have := growslice_fits (need := m) (old := 0) (bytes := bytes) (by omega) hb1
   omega
  have h63 : ¬ (9223372036854775807 < (m : Int)) := by omega
  have hge : m ≤ grownCap w m 0 e := grownCap_ge w m 0 e
  have hl : zv.cells.size = z.length := by have := hz1.1; simpa using this
  have hrun : (execOp a.eval o).run P w = .ok (.value (.slice (some ⟨w.heap.size,0,none⟩) m (grownCap w m 0 e))) (w.drew.alloc (.cells (madeCells zv.cells (m * zv.cells.size) ++ Builtin.zeroCells zv.cells (grownCap w m 0 e - m)) e)) := by
   simp [execOp,ho,resolve,invoke,builtin,hv,hk,Builtin.append_,run_underlying hu,run_underlying hint,sizeOf,typeInfo,hi,asInt,asIntOf,wl,n1,n2,h0,hby,hns,h63,hnz,zeroValue,hzo,Question.forced,newRow,grownCap,Builtin.firstCells,
    Builtin.zeroCells,madeCells]
  obtain ⟨im',io',s1,s2,s3⟩ := xNl (cap := grownCap w m 0 e) hs (Pushed.drew w (.cells (madeCells zv.cells (m * zv.cells.size) ++ Builtin.zeroCells zv.cells (grownCap w m 0 e - m)) e)) rfl (xK5 hz1 m)
   (fun c hcm => hz2 c (xLp z _ c hcm))
   (fun j u hu' => by
    have g := xIU hz1 m m (Nat.le_refl _) j u hu'
    rw [← hl] at g
    have hlt := (Array.getElem?_eq_some_iff.1 g).1
    rw [Array.getElem?_append_left hlt]; exact g) hge (by
    have hzc : (Builtin.zeroCells zv.cells (grownCap w m 0 e - m)).size = (grownCap w m 0 e - m) * z.length := by rw [size_zeroCells,hl]
    simp only [Array.size_append,size_madeCells,hzc,hl]
    rw [← Nat.add_mul]
    exact Nat.mul_le_mul_right _ (by omega)) h
  exact ⟨im',io',_,_,.inl hrun,s1,s2,s3⟩
def AOp.plain : AOp → Bool
 | .call .. | .icall .. | .fcall .. | .ocall .. | .ocallw .. | .ofcall .. | .bcall .. => false
 | _ => true
theorem yCA {op : AOp} (hp : op.plain = true) (hc : xAI P o op = true) (hs : Sim chk im io H w) (hF : FRep im io F a) (h : xAc R F H op = some (v,H')) : Good chk P o a im io w v H' := by
 cases op with
 | mov x => exact xZC hc hs hF h
 | pick c x y => exact xWA hc hs hF h
 | box x => exact xZB hc hs hF h
 | build z parts => exact xVw hc hs hF h
 | bslice fz z es n parts => exact xTh hc hs hF h
 | dslice z es n parts => exact xTi hc hs hF h
 | load g n p => exact xWy hc hs hF h
 | store n p x => exact xVv hc hs hF h
 | nilchk x => exact xTm hc hs hF h
 | bin op x y => exact xZE hc hs hF h
 | beq neg x y => exact xZF hc hs hF h
 | isnil neg x => exact xVC hc hs hF h
 | un op x => exact yCC hc hs hF h
 | conv k x => exact xWC hc hs hF h
 | mkfunc f caps => exact xTl hc hs hF h
 | mkslice fz z bytes l c => exact xQT hc hs hF h
 | slice es x lo hi mx => exact xVA hc hs hF h
 | faddr off x => exact xVx hc hs hF h
 | field g off n x => exact xVz hc hs hF h
 | iaddr es x i => exact xVy hc hs hF h
 | ext i x => exact xZD hc hs hF h
 | len x => exact xZI hc hs hF h
 | cap x => exact xZH hc hs hF h
 | aeq neg n x y => exact xZG hc hs hF h
 | append fz es bytes x y => exact xTc hc hs hF h
 | appendz z bytes x n => exact xQR hc hs hF h
 | appendh es bytes x y => exact xQS hc hs hF h
 | copy es x y => simp [xAc] at h
 | maxi x y => exact xWD hc hs hF h
 | mini x y => exact xWE hc hs hF h
 | call f args => cases hp
 | icall f args => cases hp
 | fcall f args => cases hp
 | ocall f args => cases hp
 | ocallw f args => cases hp
 | ofcall f args => cases hp
 | bcall f args => cases hp
 | mm mx xs => exact yCB hc hs hF h
 | sslice x lo hi => exact xTk hc hs hF h
 | sbeq neg x y => exact xWB hc hs hF h
 | mkbound f first => exact xQX hc hs hF h
 | idx g es len x i => exact xZN hc hs hF h
 | arrat es len x i => exact xVJ hc hs hF h
 | garr b es len i => exact xWU hc hs hF h
 | sidx x i => exact xWV hc hs hF h
 | slen x => exact xWW hc hs hF h
 | mkmap => exact xVH hc hs hF h
 | mlook ks comma z x k => exact xVI hc hs hF h
 | mupd ks m k v => exact xWO hc hs hF h
 | ment ks z m k => exact xWN hc hs hF h
 | mstore m s v => exact xTp hc hs hF h
 | mlen x => exact xWP hc hs hF h
 | mnil neg x => exact xWQ hc hs hF h
 | pnil neg x => exact xWR hc hs hF h
 | sbytes fz x => exact xTq hc hs hF h
 | bstr x => exact xWT hc hs hF h
 | sadd x y => exact xWS hc hs hF h
end
end Go.Abs
