/- The law Round. -/
import Derived.Test.YtdheandekcpieaaDoorAbsBun
import Derived.Test.YtdheandekcpieaaDoorAMR
import Derived.Test.YtdheandekcpieaaDoorAME
namespace Go.Abs.Events
open Go Go.Abs
set_option maxHeartbeats 8000000
set_option linter.unusedSimpArgs false
set_option linter.unusedVariables false
theorem xUV (fs : List Nd) : ∀ n ∈ xCw fs,n.z = n.args.isEmpty := by
 intro n hm
 unfold xCw at hm
 obtain ⟨m,-,hn⟩ := List.mem_map.1 hm
 rw [← hn]; rfl
theorem xED (fs : List Nd) : (xCw fs).length ≤ 70 := by unfold xCw; simp; omega
theorem xNL (fs : List Nd) : ∀ j,j < (xCw fs).length → ((xCw fs).getD j nd0).args.length ≤ 1000 := by
 intro j hj
 have hm : (xCw fs).getD j nd0 ∈ xCw fs := by rw [List.getD_eq_getElem?_getD,List.getElem?_eq_getElem hj]; exact List.getElem_mem hj
 unfold xCw at hm
 obtain ⟨m,-,hn⟩ := List.mem_map.1 hm
 unfold xCw
 rw [← hn]
 show (xLp m.args).length ≤ 1000
 unfold xLp
 simp; omega
theorem sbq (a b : List UInt8) : xLs false (zS a) (zS b) = some (.bool (a == b)) := by rw [xAB,baL,baL]
theorem yBl {S : List UInt8} (H : Heap) : xXo H (zS S) none (some (.int .i64 (min (S.length : Int) 900))) = some (zS (S.take 900),H) := by
 have e : min (S.length : Int) 900 = ((min S.length 900 : Nat) : Int) := by omega
 rw [e,xTz H (Nat.min_le_left _ _)]
 congr 3
 rw [Nat.min_comm,← List.take_take,List.take_length]
theorem xIP (s : List UInt8) : pnp s = true := rfl
theorem xZt {F : List Nd} (hF : chk F = 0) (hw : ∀ n ∈ F,n.z = n.args.isEmpty) : pnp (fmt F) = true := xIP _
theorem yCN {F : List Nd} {ez : Bool} (hF : chk F = 0) (hw : ∀ n ∈ F,n.z = n.args.isEmpty) (hl : F.length ≤ 1000) (ha : ∀ j,j < F.length → (F.getD j nd0).args.length ≤ 1000) :
  L.pcall 12 [zS (fmt F)] = some (.tup [.sl false F.length (nds F),.int .i64 0,.int .i64 0]) ∧ L.pcall 31 [.sl false F.length (nds F),.sl ez F.length (nds F)] = some (.bool true) := by
 have hp := xUP hF hw
 obtain ⟨h0,h64,hV⟩ := xNC hF
 have hnp : pnp (fmt F) = true := xZt hF hw
 have h12 := xIO hnp
 rw [hp] at h12
 have hne : F.isEmpty = false := by
  cases hf : F with
  | nil => rw [hf] at h0; simp at h0
  | cons _ _ => rfl
 dsimp only at h12
 rw [hne] at h12
 exact ⟨h12,xZv hl ha⟩
section
variable {z : Bool} {fs : List Nd} {S : List UInt8}
set_option maxRecDepth 100000 in
theorem xOW (hc : chk (xCw fs) = 0) {t : Tr} (t1 : t.ok) (t2 : t.sz ≤ 64) (t3 : t.op 0 = false) (t4 : S.take 900 = t.tt) (t5 : parse (S.take 900) = (t.nd 0,0,0)) : L.pcall 10 [.sl z fs.length (nds fs),zS S] = some (.bool true) := by
 have h18 := xV5 z fs
 have hk := xLm
 have h38 := xCb (xCw fs).isEmpty (fs := xCw fs) (by have := xED fs; omega)
 have hsl := fun H => yBl (S := S) H
 have hsz : (⟨S.toArray⟩ : ByteArray).size = S.length := by simp [ByteArray.size]
 have hszT : (⟨(S.take 900).toArray⟩ : ByteArray).size = (S.take 900).length := by simp [ByteArray.size]
 obtain ⟨b1,b2⟩ := yCN (ez := (xCw fs).isEmpty) hc (xUV fs) (by have := xED fs; omega) (xNL fs)
 rw [hc] at h38
 have hnp : pnp (S.take 900) = true := xIP _
 have h12 := xIO hnp
 rw [t5] at h12
 have hne : (t.nd 0).isEmpty = false := by
  have h1 := t.nd_len 0
  have h2 := t.sz_pos
  cases hn : t.nd 0 with
  | nil => rw [hn,List.length_nil] at h1; omega
  | cons _ _ => rfl
 dsimp only at h12
 rw [hne] at h12
 have h38b := xCb false (fs := t.nd 0) (by rw [t.nd_len]; omega)
 rw [xXA t1 t2 t3,xIo t1 t2 t3,← t4] at h38b
 have hsb : xLs false (zS (S.take 900)) (zS (S.take 900)) = some (.bool true) := by rw [sbq]; simp
 generalize nds (t.nd 0) = Nt at *
 generalize (t.nd 0).length = nt at *
 generalize (xCw fs).isEmpty = ea at *
 generalize nds (xCw fs) = Na at *
 generalize (xCw fs).length = na at *
 generalize S.take 900 = T at *
 rw [yBh,a10,xAd]
 simp (disch := omega) only [WB,Nat.reduceAdd,Nat.reduceSub,h18,xAO,xAt,↓reduceIte,h38,b1,b2,WA,hsz,xBu,hsl,h12,h38b,xAC,hsb,hk]
set_option maxRecDepth 100000 in
theorem xNM (hc : chk (xCw fs) = 0) {a e : Nat} (t5 : parse (S.take 900) = ([],a,e)) (he : e ≠ 0) (ha : a ≤ (S.take 900).length) : L.pcall 10 [.sl z fs.length (nds fs),zS S] = some (.bool true) := by
 have h18 := xV5 z fs
 have hk := xLm
 have h38 := xCb (xCw fs).isEmpty (fs := xCw fs) (by have := xED fs; omega)
 have hsl := fun H => yBl (S := S) H
 have hsz : (⟨S.toArray⟩ : ByteArray).size = S.length := by simp [ByteArray.size]
 have hszT : (⟨(S.take 900).toArray⟩ : ByteArray).size = (S.take 900).length := by simp [ByteArray.size]
 obtain ⟨b1,b2⟩ := yCN (ez := (xCw fs).isEmpty) hc (xUV fs) (by have := xED fs; omega) (xNL fs)
 rw [hc] at h38
 have hnp : pnp (S.take 900) = true := xIP _
 have h12 := xIO hnp
 rw [t5] at h12
 have h12' : L.pcall 12 [zS (S.take 900)] = some (.tup [.sl true 0 [],.int .i64 (a : Nat),.int .i64 (e : Nat)]) := h12
 have heI : ¬ (((e : Nat) : Int) = 0) := by omega
 have ha1 : ((0 : Int) ≤ (a : Nat)) = True := by simp
 have ha2 : (((a : Nat) : Int) ≤ ((S.take 900).length : Nat)) = True := by simp only [eq_iff_iff,iff_true]; omega
 generalize (xCw fs).isEmpty = ea at *
 generalize nds (xCw fs) = Na at *
 generalize (xCw fs).length = na at *
 generalize S.take 900 = T at *
 rw [yBh,a10,xAd]
 simp (disch := omega) only [WB,Nat.reduceAdd,Nat.reduceSub,h18,xAO,xAt,↓reduceIte,h38,b1,b2,WA,hsz,xBu,hsl,h12',heI,ha1,hszT,ha2,hk]
set_option maxRecDepth 100000 in
theorem xNN (hc : chk (xCw fs) ≠ 0) {t : Tr} (t1 : t.ok) (t2 : t.sz ≤ 64) (t3 : t.op 0 = false) (t4 : S.take 900 = t.tt) (t5 : parse (S.take 900) = (t.nd 0,0,0)) : L.pcall 10 [.sl z fs.length (nds fs),zS S] = some (.bool true) := by
 have h18 := xV5 z fs
 have hk := xLm
 have h38 := xCb (xCw fs).isEmpty (fs := xCw fs) (by have := xED fs; omega)
 have hsl := fun H => yBl (S := S) H
 have hsz : (⟨S.toArray⟩ : ByteArray).size = S.length := by simp [ByteArray.size]
 have hszT : (⟨(S.take 900).toArray⟩ : ByteArray).size = (S.take 900).length := by simp [ByteArray.size]
 have hf : fmt (xCw fs) = [] := by unfold fmt; rw [if_neg hc]
 have hcI : ¬ (((chk (xCw fs) : Nat) : Int) = 0) := by omega
 rw [hf] at h38
 have hse : xLs false (.str ⟨#[]⟩) (.str ⟨#[]⟩) = some (.bool true) := sbq [] []
 generalize ((chk (xCw fs) : Nat) : Int) = ca at *
 have hnp : pnp (S.take 900) = true := xIP _
 have h12 := xIO hnp
 rw [t5] at h12
 have hne : (t.nd 0).isEmpty = false := by
  have h1 := t.nd_len 0
  have h2 := t.sz_pos
  cases hn : t.nd 0 with
  | nil => rw [hn,List.length_nil] at h1; omega
  | cons _ _ => rfl
 dsimp only at h12
 rw [hne] at h12
 have h38b := xCb false (fs := t.nd 0) (by rw [t.nd_len]; omega)
 rw [xXA t1 t2 t3,xIo t1 t2 t3,← t4] at h38b
 have hsb : xLs false (zS (S.take 900)) (zS (S.take 900)) = some (.bool true) := by rw [sbq]; simp
 generalize nds (t.nd 0) = Nt at *
 generalize (t.nd 0).length = nt at *
 generalize (xCw fs).isEmpty = ea at *
 generalize nds (xCw fs) = Na at *
 generalize (xCw fs).length = na at *
 generalize S.take 900 = T at *
 rw [yBh,a10,xAd]
 simp (disch := omega) only [WB,Nat.reduceAdd,Nat.reduceSub,h18,xAO,xAt,↓reduceIte,h38,hcI,WA,hsz,xBu,hsl,h12,h38b,xAC,hsb,hse,hk]
set_option maxRecDepth 100000 in
theorem xLE (hc : chk (xCw fs) ≠ 0) {a e : Nat} (t5 : parse (S.take 900) = ([],a,e)) (he : e ≠ 0) (ha : a ≤ (S.take 900).length) : L.pcall 10 [.sl z fs.length (nds fs),zS S] = some (.bool true) := by
 have h18 := xV5 z fs
 have hk := xLm
 have h38 := xCb (xCw fs).isEmpty (fs := xCw fs) (by have := xED fs; omega)
 have hsl := fun H => yBl (S := S) H
 have hsz : (⟨S.toArray⟩ : ByteArray).size = S.length := by simp [ByteArray.size]
 have hszT : (⟨(S.take 900).toArray⟩ : ByteArray).size = (S.take 900).length := by simp [ByteArray.size]
 have hf : fmt (xCw fs) = [] := by unfold fmt; rw [if_neg hc]
 have hcI : ¬ (((chk (xCw fs) : Nat) : Int) = 0) := by omega
 rw [hf] at h38
 have hse : xLs false (.str ⟨#[]⟩) (.str ⟨#[]⟩) = some (.bool true) := sbq [] []
 generalize ((chk (xCw fs) : Nat) : Int) = ca at *
 have hnp : pnp (S.take 900) = true := xIP _
 have h12 := xIO hnp
 rw [t5] at h12
 have h12' : L.pcall 12 [zS (S.take 900)] = some (.tup [.sl true 0 [],.int .i64 (a : Nat),.int .i64 (e : Nat)]) := h12
 have heI : ¬ (((e : Nat) : Int) = 0) := by omega
 have ha1 : ((0 : Int) ≤ (a : Nat)) = True := by simp
 have ha2 : (((a : Nat) : Int) ≤ ((S.take 900).length : Nat)) = True := by simp only [eq_iff_iff,iff_true]; omega
 generalize (xCw fs).isEmpty = ea at *
 generalize nds (xCw fs) = Na at *
 generalize (xCw fs).length = na at *
 generalize S.take 900 = T at *
 rw [yBh,a10,xAd]
 simp (disch := omega) only [WB,Nat.reduceAdd,Nat.reduceSub,h18,xAO,xAt,↓reduceIte,h38,hcI,WA,hsz,xBu,hsl,h12',heI,ha1,hszT,ha2,xAC,hse,hk]
end
theorem xZu {a : AV} (h : Fit .str a) : ∃ S : List UInt8,a = zS S := by
 cases h with
 | @str s _ => exact ⟨s.data.toList,rfl⟩
def yDj : TS := ⟨false,[.str]⟩
theorem law10 (avs : List AV) (h : xNR [yAd,yDj] avs) : L.pcall 10 avs = some (.bool true) := by
 obtain ⟨v1,avs,rfl,f1,h⟩ := xKz h
 obtain ⟨v2,avs,rfl,f2,h⟩ := xKz h
 obtain rfl := xUb h
 obtain ⟨z,fs,rfl⟩ := xYB (xQt f1)
 obtain ⟨S,rfl⟩ := xZu (xQt f2)
 rcases xOY (S := S.take 900) (by simp; omega) with ⟨t,t1,t2,t3,t4,t5⟩ | ⟨a,e,t5,he,ha⟩
 ·by_cases hc : chk (xCw fs) = 0
  ·exact xOW hc t1 t2 t3 t4 t5
  ·exact xNN hc t1 t2 t3 t4 t5
 ·by_cases hc : chk (xCw fs) = 0
  ·exact xNM hc t5 he ha
  ·exact xLE hc t5 he ha
end Go.Abs.Events
