/- The reference: reachable. -/
import Derived.Test.YtijmhicopfphnaaDoorAbsBun
import Derived.Test.YtijmhicopfphnaaDoorAMA
import Derived.Test.YtijmhicopfphnaaDoorAR1
namespace Go.Abs.Tree
open Go Go.Abs
set_option linter.unusedSimpArgs false
set_option linter.unusedVariables false
theorem yFv {n : Aut} {p b s : Nat} (hpb : p ≠ b) (hl : n.st.length < 1000000) (hs : s ≤ 64) (hq : ∀ q ∈ n.st,0 ≤ q ∧ q < (s : Int)) : ∀ d i B G,i + d = n.st.length → B.length = s → G[p]? = some (.cells false false n.cells) → G[b]? = some (.cells false false (blz B)) →
  L.loop xRN yAh ⟨xRO (.ptr p 0) (.own false b 0 s 1) (.int .i64 (i : Nat)),G⟩ =
   some (.exit 0,⟨xRO (.ptr p 0) (.own false b 0 s 1) (.int .i64 (n.st.length : Nat)),G.set b (.cells false false (blz (xLY ((n.st.drop i).map Int.toNat) B)))⟩)
 | 0,i,B,G,h,hB,hp,hG => by
  obtain rfl : i = n.st.length := by omega
  rw [List.drop_length,List.map_nil,xLY,xHU hG,yBF]
  simp (maxSteps := 30000000) (disch := first | assumption | omega | (simp only [WL,AV.isCell,xAb,xAa,xAq] <;> omega) | rfl | decide) only [xUi,WB,hp,↓reduceIte,xXq]
 | d + 1,i,B,G,h,hB,hp,hG => by
  have hlt : (i : Int) < (n.st.length : Nat) := by omega
  have hm : n.st.getD i 0 ∈ n.st := by
   rw [List.getD_eq_getElem?_getD,List.getElem?_eq_getElem (by omega)]
   exact List.getElem_mem _
  obtain ⟨h0,h1⟩ := hq _ hm
  rw [xHA (by omega : i < n.st.length),List.map_cons,xLY]
  generalize hx : n.st.getD i 0 = x at *
  obtain ⟨q,rfl⟩ := Int.eq_ofNat_of_zero_le h0
  have hqs : q < B.length := by omega
  have hst := xLX (x := true) hqs
  have hbl := xAq B
  rw [hB] at hbl
  have lo := (List.getElem?_eq_some_iff.1 hG).1
  have ih := yFv (n := n) (p := p) (b := b) (s := s) hpb hl hs hq d (i + 1) (B.set q true) (G.set b (.cells false false (blz (B.set q true)))) (by omega) (by simpa using hB) (by rw [List.getElem?_set_ne (fun e => hpb e.symm)]; exact hp) (by rw [List.getElem?_set_self lo])
  rw [List.set_set,← hst] at ih
  rw [Int.toNat_natCast]
  have hqs' : q < s := by omega
  have hqI : ((q : Nat) : Int) < (s : Nat) := by omega
  generalize blz B = LB at *
  rw [yBF]
  simp (maxSteps := 30000000) (disch := first | assumption | omega | (simp only [WL,AV.isCell,xAb,xAa,xAq] <;> omega) | rfl | decide) only [xUi,WB,hp,hlt,↓reduceIte,W2,hx,AV.cells,hG,xXq,ih]
theorem xYU (l : List Rl) (B : List Bool) : (xHt stT l B).length = B.length := (xLj xSQ l B).len.symm
theorem xYV (S : List Bool) (l : List Rl) (B : List Bool) : (xHt (stU S) l B).length = B.length := (xLj (xSR S) l B).len.symm
set_option maxHeartbeats 4000000 in
theorem xYW {n : Aut} {p b s : Nat} {s5 : AV} (hpb : p ≠ b) (hs : s ≤ 64) (hl : n.rl.length < 1000000) (hr : RlS s n.rl) : ∀ d i B G,i + d = n.rl.length → B.length = s → G[p]? = some (.cells false false n.cells) → G[b]? = some (.cells false false (blz B)) →
  ∃ T,L.loop xRP yAi ⟨xRQ (.ptr p 0) (.own false b 0 s 1) s5 (.int .i64 (i : Nat)),G⟩ =
   some (.exit 4,⟨xRQ (.ptr p 0) (.own false b 0 s 1) s5 (.int .i64 (n.rl.length : Nat)),G.set b (.cells false false (blz (xHt stT (n.rl.drop i) B))) ++ T⟩)
 | 0,i,B,G,h,hB,hp,hG => by
  obtain rfl : i = n.rl.length := by omega
  refine ⟨[],?_⟩
  rw [List.drop_length,xHt,xHU hG,List.append_nil,xUj]
  simp (maxSteps := 30000000) (disch := first | assumption | omega | (simp only [WL,AV.isCell,xAb,xAa,xAq] <;> omega) | rfl | decide) only [xPf,WB,hp,↓reduceIte,xRR]
 | d + 1,i,B,G,h,hB,hp,hG => by
  have hlt : (i : Int) < (n.rl.length : Nat) := by omega
  obtain ⟨⟨l0,l1⟩,⟨q0,q1⟩,⟨t0,t1⟩,p1,n1⟩ := hr.h _ (xIN (by omega : i < n.rl.length))
  have hat := xCF (show i < n.rl.length by omega)
  rw [xHR (by omega : i < n.rl.length),xHt]
  generalize n.rl.getD i r0 = u at *
  obtain ⟨ul,ur,ut,up,un⟩ := u
  simp only at l0 l1 q0 q1 t0 t1 p1 n1 hat
  obtain ⟨xl,rfl⟩ := Int.eq_ofNat_of_zero_le l0
  obtain ⟨xr,rfl⟩ := Int.eq_ofNat_of_zero_le q0
  obtain ⟨xt,rfl⟩ := Int.eq_ofNat_of_zero_le t0
  have la : xl < s := by omega
  have lb : xr < s := by omega
  have lc : xt < s := by omega
  have laI : ((xl : Nat) : Int) < (s : Nat) := by omega
  have lbI : ((xr : Nat) : Int) < (s : Nat) := by omega
  have lcI : ((xt : Nat) : Int) < (s : Nat) := by omega
  have lo := (List.getElem?_eq_some_iff.1 hG).1
  have hbl := xAq B
  rw [hB] at hbl
  have hg0 : ∀ y : Blk,(G ++ [y])[b]? = some (.cells false false (blz B)) := fun y => xAu hG
  have ata := xFu (l := B) (k := xl) (by omega)
  have atb := xFu (l := B) (k := xr) (by omega)
  have hsc := xLX (l := B) (k := xt) (x := true) (by omega)
  obtain ⟨T1,same⟩ := xYW (s5 := s5) hpb hs hl hr d (i + 1) B (G ++ [Blk.cells false false [.int .i64 (xl : Nat),.int .i64 (xr : Nat),.int .i64 (xt : Nat),.int .u8 (up : Nat),.int .u8 (un : Nat)]]) (by omega) hB (xAu hp) (xAu hG)
  obtain ⟨T2,more⟩ := xYW (s5 := s5) hpb hs hl hr d (i + 1) (B.set xt true) ((G ++ [Blk.cells false false [.int .i64 (xl : Nat),.int .i64 (xr : Nat),.int .i64 (xt : Nat),.int .u8 (up : Nat),.int .u8 (un : Nat)]]).set b (.cells false false (blz (B.set xt true)))) (by omega) (by simpa using hB) (by rw [List.getElem?_set_ne (fun h => hpb h.symm)]; exact xAu hp) (by rw [List.getElem?_set_self (by simp; omega)])
  rw [xJU hG,List.append_assoc] at same
  rw [List.set_set,xJU hG,xJU hG,List.append_assoc,← hsc] at more
  by_cases c1 : B.getD xl false = true
  ·rw [c1] at ata
   by_cases c2 : B.getD xr false = true
   ·rw [c2] at atb
    refine ⟨Blk.cells false false [.int .i64 (xl : Nat),.int .i64 (xr : Nat),.int .i64 (xt : Nat),.int .u8 (up : Nat),.int .u8 (un : Nat)] :: T2,?_⟩
    rw [stT,if_pos ⟨by simpa using c1,by simpa using c2⟩]
    simp only [Int.toNat_natCast]
    clear same hsc
    generalize blz B = LB at *
    rw [xUj]
    simp (maxSteps := 30000000) (disch := first | assumption | omega | (simp only [WL,AV.isCell,xAb,xAa,xAq] <;> omega) | rfl | decide) only [xPf,WB,hp,hlt,↓reduceIte,hat,AV.cells,AV.isCell,Nat.reduceAdd,hg0,ata,atb,xJU hG,xRR,more]
   ·have c2' : B.getD xr false = false := by simpa using c2
    rw [c2'] at atb
    refine ⟨Blk.cells false false [.int .i64 (xl : Nat),.int .i64 (xr : Nat),.int .i64 (xt : Nat),.int .u8 (up : Nat),.int .u8 (un : Nat)] :: T1,?_⟩
    rw [stT,if_neg (fun h => c2 (by simpa using h.2))]
    clear more hsc
    generalize blz B = LB at *
    rw [xUj]
    simp (maxSteps := 30000000) (disch := first | assumption | omega | (simp only [WL,AV.isCell,xAb,xAa,xAq] <;> omega) | rfl | decide) only [xPf,WB,hp,hlt,↓reduceIte,hat,AV.cells,AV.isCell,Nat.reduceAdd,hg0,ata,atb,xRR,same]
  ·have c1' : B.getD xl false = false := by simpa using c1
   rw [c1'] at ata
   refine ⟨Blk.cells false false [.int .i64 (xl : Nat),.int .i64 (xr : Nat),.int .i64 (xt : Nat),.int .u8 (up : Nat),.int .u8 (un : Nat)] :: T1,?_⟩
   rw [stT,if_neg (fun h => c1 (by simpa using h.1))]
   clear more hsc
   generalize blz B = LB at *
   rw [xUj]
   simp (maxSteps := 30000000) (disch := first | assumption | omega | (simp only [WL,AV.isCell,xAb,xAa,xAq] <;> omega) | rfl | decide) only [xPf,WB,hp,hlt,↓reduceIte,hat,AV.cells,AV.isCell,Nat.reduceAdd,hg0,ata,xRR,same]
theorem xU7 {n : Aut} {p b s : Nat} (hn : n.states = (s : Nat)) (hpb : p ≠ b) (hs : s ≤ 64) (hl : n.rl.length < 1000000) (hr : RlS s n.rl) : ∀ d i B G,i + d = s → B.length = s → G[p]? = some (.cells false false n.cells) → G[b]? = some (.cells false false (blz B)) →
  ∃ T,L.loop xRS yAj ⟨xRT (.ptr p 0) (.own false b 0 s 1) (.int .i64 (i : Nat)),G⟩ =
   some (.exit 2,⟨xRT (.ptr p 0) (.own false b 0 s 1) (.int .i64 (s : Nat)),G.set b (.cells false false (blz (xKk stT n.rl d B))) ++ T⟩)
 | 0,i,B,G,h,hB,hp,hG => by
  obtain rfl : i = s := by omega
  refine ⟨[],?_⟩
  rw [xKk,xHU hG,List.append_nil,yBG]
  simp (maxSteps := 30000000) (disch := first | assumption | omega | (simp only [WL,AV.isCell,xAb,xAa,xAq] <;> omega) | rfl | decide) only [xUk,WB,hp,hn,↓reduceIte,xXr]
 | d + 1,i,B,G,h,hB,hp,hG => by
  have hlt : (i : Int) < (s : Nat) := by omega
  have lo := (List.getElem?_eq_some_iff.1 hG).1
  obtain ⟨T1,h1⟩ := xYW (s5 := .int .i64 (i : Nat)) hpb hs hl hr n.rl.length 0 B G (by omega) hB hp hG
  simp only [Int.natCast_zero,List.drop_zero] at h1
  obtain ⟨T2,h2⟩ := xU7 hn hpb hs hl hr d (i + 1) (xHt stT n.rl B) (G.set b (.cells false false (blz (xHt stT n.rl B))) ++ T1) (by omega) (by rw [xYU]; exact hB) (xAu (by rw [List.getElem?_set_ne (fun h => hpb h.symm)]; exact hp)) (xAu (by rw [List.getElem?_set_self lo]))
  rw [xJU (x := .cells false false (blz (xHt stT n.rl B))) (by rw [List.getElem?_set_self lo]),List.set_set,List.append_assoc] at h2
  refine ⟨T1 ++ T2,?_⟩
  rw [xKk,yBG]
  simp (maxSteps := 30000000) (disch := first | assumption | omega | (simp only [WL,AV.isCell,xAb,xAa,xAq] <;> omega) | rfl | decide) only [xUk,WB,hp,hn,hlt,↓reduceIte,xRR,h1,xXr,h2]
theorem xYX (n : Aut) {s : Nat} (hn : n.states = (s : Nat)) (hs : s ≤ 64) (h1 : n.st.length < 1000000) (hl : n.rl.length < 1000000) (hq : ∀ q ∈ n.st,0 ≤ q ∧ q < (s : Int)) (hr : RlS s n.rl) : L.pcall 56 [n.av] = some (.sl false s (blz (xJ5 s n))) := by
 have h85 := xY4 n hn hs
 have hp := yFv (n := n) (p := 0) (b := 1) (by decide) h1 hs hq n.st.length 0 (List.replicate s false) [.cells false false n.cells,.cells false false (blz (List.replicate s false))] (by omega) (by simp) rfl rfl
 obtain ⟨T,hr⟩ := xU7 (n := n) (p := 0) (b := 1) hn (by decide) hs hl hr s 0 (xLY (n.st.map Int.toNat) (List.replicate s false)) [.cells false false n.cells,.cells false false (blz (xLY (n.st.map Int.toNat) (List.replicate s false)))] (by omega) (by rw [xLx,List.length_replicate]) rfl rfl
 simp only [Int.natCast_zero,List.drop_zero] at hp hr
 have hlen := xNu s n
 have ht := xNt (xJ5 s n)
 have hbl := xAq (xJ5 s n)
 have hfz := fun d H => xGB d H (xJ5 s n)
 rw [hlen] at ht hbl
 change L.loop _ _ _ = some (_,⟨_,_ ++ T⟩) at hr
 have e : xKk stT n.rl s (xLY (n.st.map Int.toNat) (List.replicate s false)) = xJ5 s n := rfl
 rw [e] at hr
 generalize blz (xJ5 s n) = LB at *
 generalize blz (xLY (n.st.map Int.toNat) (List.replicate s false)) = LC at *
 rw [yH6,a56,xAd]
 simp (maxSteps := 30000000) (disch := first | assumption | omega | (simp only [WL,AV.isCell,xAb,xAa,xAq] <;> omega) | rfl | decide) only [WB,Nat.reduceSub,AV.cells,AV.isCell,↓reduceIte,WP,h85,xCY,xD9,xCJ,xXq,hp,xXr,hr,xDT,ht,hfz]
set_option maxHeartbeats 2000000 in
theorem yFw {n : Aut} {p b s : Nat} {S : List Bool} (hpb : p ≠ b) (hl : n.fi.length < 1000000) (hs : s ≤ 64) (hS : S.length = s) (hq : ∀ q ∈ n.fi,0 ≤ q ∧ q < (s : Int)) : ∀ d i B G,i + d = n.fi.length → B.length = s → G[p]? = some (.cells false false n.cells) → G[b]? = some (.cells false false (blz B)) →
  L.loop xRW yAl ⟨xRX (.ptr p 0) (.sl false s (blz S)) (.own false b 0 s 1) (.int .i64 (i : Nat)),G⟩ =
   some (.exit 0,⟨xRX (.ptr p 0) (.sl false s (blz S)) (.own false b 0 s 1) (.int .i64 (n.fi.length : Nat)),G.set b (.cells false false (blz (putS S ((n.fi.drop i).map Int.toNat) B)))⟩)
 | 0,i,B,G,h,hB,hp,hG => by
  obtain rfl : i = n.fi.length := by omega
  rw [List.drop_length,List.map_nil,putS,xHU hG,yBH]
  simp (maxSteps := 30000000) (disch := first | assumption | omega | (simp only [WL,AV.isCell,xAb,xAa,xAq] <;> omega) | rfl | decide) only [xUm,WB,hp,↓reduceIte,xXs]
 | d + 1,i,B,G,h,hB,hp,hG => by
  have hlt : (i : Int) < (n.fi.length : Nat) := by omega
  have hm : n.fi.getD i 0 ∈ n.fi := by
   rw [List.getD_eq_getElem?_getD,List.getElem?_eq_getElem (by omega)]
   exact List.getElem_mem _
  obtain ⟨h0,h1⟩ := hq _ hm
  rw [xHA (by omega : i < n.fi.length),List.map_cons,putS]
  generalize hx : n.fi.getD i 0 = x at *
  obtain ⟨q,rfl⟩ := Int.eq_ofNat_of_zero_le h0
  have hqs : q < B.length := by omega
  have hst := xLX (x := S.getD q false) hqs
  have hbl := xAq B
  rw [hB] at hbl
  have hsl := xAq S
  rw [hS] at hsl
  have hat := xFu (l := S) (k := q) (by omega)
  have lo := (List.getElem?_eq_some_iff.1 hG).1
  have ih := yFw (n := n) (p := p) (b := b) (s := s) (S := S) hpb hl hs hS hq d (i + 1) (B.set q (S.getD q false)) (G.set b (.cells false false (blz (B.set q (S.getD q false))))) (by omega) (by simpa using hB) (by rw [List.getElem?_set_ne (fun e => hpb e.symm)]; exact hp) (by rw [List.getElem?_set_self lo])
  rw [List.set_set,← hst] at ih
  rw [Int.toNat_natCast]
  have hqs' : q < s := by omega
  have hqI : ((q : Nat) : Int) < (s : Nat) := by omega
  generalize blz B = LB at *
  generalize blz S = LS at *
  rw [yBH]
  simp (maxSteps := 30000000) (disch := first | assumption | omega | (simp only [WL,AV.isCell,xAb,xAa,xAq] <;> omega) | rfl | decide) only [xUm,WB,hp,hlt,↓reduceIte,W2,hx,xAm,hat,AV.cells,hG,xXs,ih]
set_option maxHeartbeats 4000000 in
theorem xYY {n : Aut} {p b s : Nat} {s6 : AV} {S : List Bool} (hpb : p ≠ b) (hs : s ≤ 64) (hS : S.length = s) (hl : n.rl.length < 1000000) (hr : RlS s n.rl) : ∀ d i B G,i + d = n.rl.length → B.length = s → G[p]? = some (.cells false false n.cells) → G[b]? = some (.cells false false (blz B)) →
  ∃ T,L.loop xRY yAm ⟨xRZ (.ptr p 0) (.sl false s (blz S)) (.own false b 0 s 1) s6 (.int .i64 (i : Nat)),G⟩ =
   some (.exit 4,⟨xRZ (.ptr p 0) (.sl false s (blz S)) (.own false b 0 s 1) s6 (.int .i64 (n.rl.length : Nat)),G.set b (.cells false false (blz (xHt (stU S) (n.rl.drop i) B))) ++ T⟩)
 | 0,i,B,G,h,hB,hp,hG => by
  obtain rfl : i = n.rl.length := by omega
  refine ⟨[],?_⟩
  rw [List.drop_length,xHt,xHU hG,List.append_nil,xR0]
  simp (maxSteps := 30000000) (disch := first | assumption | omega | (simp only [WL,AV.isCell,xAb,xAa,xAq] <;> omega) | rfl | decide) only [xN7,WB,hp,↓reduceIte,xPh]
 | d + 1,i,B,G,h,hB,hp,hG => by
  have hlt : (i : Int) < (n.rl.length : Nat) := by omega
  obtain ⟨⟨l0,l1⟩,⟨q0,q1⟩,⟨t0,t1⟩,p1,n1⟩ := hr.h _ (xIN (by omega : i < n.rl.length))
  have hat := xCF (show i < n.rl.length by omega)
  rw [xHR (by omega : i < n.rl.length),xHt]
  generalize n.rl.getD i r0 = u at *
  obtain ⟨ul,ur,ut,up,un⟩ := u
  simp only at l0 l1 q0 q1 t0 t1 p1 n1 hat
  obtain ⟨xl,rfl⟩ := Int.eq_ofNat_of_zero_le l0
  obtain ⟨xr,rfl⟩ := Int.eq_ofNat_of_zero_le q0
  obtain ⟨xt,rfl⟩ := Int.eq_ofNat_of_zero_le t0
  have la : xl < s := by omega
  have lb : xr < s := by omega
  have lc : xt < s := by omega
  have laI : ((xl : Nat) : Int) < (s : Nat) := by omega
  have lbI : ((xr : Nat) : Int) < (s : Nat) := by omega
  have lcI : ((xt : Nat) : Int) < (s : Nat) := by omega
  have lo := (List.getElem?_eq_some_iff.1 hG).1
  have hbl := xAq B
  rw [hB] at hbl
  have hg0 : ∀ y : Blk,(G ++ [y])[b]? = some (.cells false false (blz B)) := fun y => xAu hG
  have hsl := xAq S
  rw [hS] at hsl
  have ata := xFu (l := S) (k := xl) (by omega)
  have atb := xFu (l := S) (k := xr) (by omega)
  have atc := xFu (l := B) (k := xt) (by omega)
  have hsa := xLX (l := B) (k := xl) (x := true) (by omega)
  have hsb := xLX (l := B.set xl true) (k := xr) (x := true) (by simp; omega)
  have hl1 : (List.take xl (blz B) ++ (AV.bool true :: List.drop (xl + 1) (blz B))).length = s := by rw [hsa,xAq,List.length_set]; exact hB
  obtain ⟨T1,same⟩ := xYY (s6 := s6) hpb hs hS hl hr d (i + 1) B (G ++ [Blk.cells false false [.int .i64 (xl : Nat),.int .i64 (xr : Nat),.int .i64 (xt : Nat),.int .u8 (up : Nat),.int .u8 (un : Nat)]]) (by omega) hB (xAu hp) (xAu hG)
  obtain ⟨T2,more⟩ := xYY (s6 := s6) hpb hs hS hl hr d (i + 1) ((B.set xl true).set xr true) ((G ++ [Blk.cells false false [.int .i64 (xl : Nat),.int .i64 (xr : Nat),.int .i64 (xt : Nat),.int .u8 (up : Nat),.int .u8 (un : Nat)]]).set b (.cells false false (blz ((B.set xl true).set xr true)))) (by omega) (by simpa using hB) (by rw [List.getElem?_set_ne (fun h => hpb h.symm)]; exact xAu hp) (by rw [List.getElem?_set_self (by simp; omega)])
  rw [xJU hG,List.append_assoc] at same
  rw [List.set_set,xJU hG,xJU hG,List.append_assoc,← hsb,← hsa] at more
  have hg1 : ∀ (x y : Blk),(G.set b x ++ [y])[b]? = some x := fun x y => xAu (by rw [List.getElem?_set_self lo])
  have hg2 : ∀ (x y : Blk),(G.set b x ++ [y])[G.length]? = some y := fun x y => by rw [List.getElem?_append_right (by simp),List.length_set,Nat.sub_self]; rfl
  have hg3 : ∀ (x x' y : Blk),(G.set b x ++ [y]).set b x' = G.set b x' ++ [y] := fun x x' y => by rw [List.set_append_left _ _ (by simpa using lo),List.set_set]
  by_cases c3 : B.getD xt false = true
  ·rw [c3] at atc
   by_cases c1 : S.getD xl false = true
   ·rw [c1] at ata
    by_cases c2 : S.getD xr false = true
    ·rw [c2] at atb
     refine ⟨Blk.cells false false [.int .i64 (xl : Nat),.int .i64 (xr : Nat),.int .i64 (xt : Nat),.int .u8 (up : Nat),.int .u8 (un : Nat)] :: T2,?_⟩
     rw [stU,if_pos ⟨by simpa using c3,by simpa using c1,by simpa using c2⟩]
     simp only [Int.toNat_natCast]
     clear same hsa hsb
     generalize blz B = LB at *
     generalize blz S = LS at *
     rw [xR0]
     simp (maxSteps := 30000000) (disch := first | assumption | omega | (simp only [WL,AV.isCell,xAb,xAa,xAq] <;> omega) | rfl | decide) only [xN7,WB,hp,hlt,↓reduceIte,hat,AV.cells,AV.isCell,Nat.reduceAdd,hg0,atc,ata,atb,xJU hG,hg2,hg1,hg3,xPh,more]
    ·have c2' : S.getD xr false = false := by simpa using c2
     rw [c2'] at atb
     refine ⟨Blk.cells false false [.int .i64 (xl : Nat),.int .i64 (xr : Nat),.int .i64 (xt : Nat),.int .u8 (up : Nat),.int .u8 (un : Nat)] :: T1,?_⟩
     rw [stU,if_neg (fun h => c2 (by simpa using h.2.2))]
     clear more hsa hsb
     generalize blz B = LB at *
     generalize blz S = LS at *
     rw [xR0]
     simp (maxSteps := 30000000) (disch := first | assumption | omega | (simp only [WL,AV.isCell,xAb,xAa,xAq] <;> omega) | rfl | decide) only [xN7,WB,hp,hlt,↓reduceIte,hat,AV.cells,AV.isCell,Nat.reduceAdd,hg0,atc,ata,atb,xPh,same]
   ·have c1' : S.getD xl false = false := by simpa using c1
    rw [c1'] at ata
    refine ⟨Blk.cells false false [.int .i64 (xl : Nat),.int .i64 (xr : Nat),.int .i64 (xt : Nat),.int .u8 (up : Nat),.int .u8 (un : Nat)] :: T1,?_⟩
    rw [stU,if_neg (fun h => c1 (by simpa using h.2.1))]
    clear more hsa hsb
    generalize blz B = LB at *
    generalize blz S = LS at *
    rw [xR0]
    simp (maxSteps := 30000000) (disch := first | assumption | omega | (simp only [WL,AV.isCell,xAb,xAa,xAq] <;> omega) | rfl | decide) only [xN7,WB,hp,hlt,↓reduceIte,hat,AV.cells,AV.isCell,Nat.reduceAdd,hg0,atc,ata,xPh,same]
  ·have c3' : B.getD xt false = false := by simpa using c3
   rw [c3'] at atc
   refine ⟨Blk.cells false false [.int .i64 (xl : Nat),.int .i64 (xr : Nat),.int .i64 (xt : Nat),.int .u8 (up : Nat),.int .u8 (un : Nat)] :: T1,?_⟩
   rw [stU,if_neg (fun h => c3 (by simpa using h.1))]
   clear more hsa hsb
   generalize blz B = LB at *
   generalize blz S = LS at *
   rw [xR0]
   simp (maxSteps := 30000000) (disch := first | assumption | omega | (simp only [WL,AV.isCell,xAb,xAa,xAq] <;> omega) | rfl | decide) only [xN7,WB,hp,hlt,↓reduceIte,hat,AV.cells,AV.isCell,Nat.reduceAdd,hg0,atc,xPh,same]
theorem xU8 {n : Aut} {p b s : Nat} {S : List Bool} (hn : n.states = (s : Nat)) (hpb : p ≠ b) (hs : s ≤ 64) (hl : n.rl.length < 1000000) (hr : RlS s n.rl) (hS : S.length = s) : ∀ d i B G,i + d = s → B.length = s → G[p]? = some (.cells false false n.cells) → G[b]? = some (.cells false false (blz B)) →
  ∃ T,L.loop xR1 yAn ⟨xR2 (.ptr p 0) (.sl false s (blz S)) (.own false b 0 s 1) (.int .i64 (i : Nat)),G⟩ =
   some (.exit 2,⟨xR2 (.ptr p 0) (.sl false s (blz S)) (.own false b 0 s 1) (.int .i64 (s : Nat)),G.set b (.cells false false (blz (xKk (stU S) n.rl d B))) ++ T⟩)
 | 0,i,B,G,h,hB,hp,hG => by
  obtain rfl : i = s := by omega
  refine ⟨[],?_⟩
  rw [xKk,xHU hG,List.append_nil,yBI]
  simp (maxSteps := 30000000) (disch := first | assumption | omega | (simp only [WL,AV.isCell,xAb,xAa,xAq] <;> omega) | rfl | decide) only [xUn,WB,hp,hn,↓reduceIte,xXt]
 | d + 1,i,B,G,h,hB,hp,hG => by
  have hlt : (i : Int) < (s : Nat) := by omega
  have lo := (List.getElem?_eq_some_iff.1 hG).1
  obtain ⟨T1,h1⟩ := xYY (s6 := .int .i64 (i : Nat)) hpb hs hS hl hr n.rl.length 0 B G (by omega) hB hp hG
  simp only [Int.natCast_zero,List.drop_zero] at h1
  obtain ⟨T2,h2⟩ := xU8 hn hpb hs hl hr hS d (i + 1) (xHt (stU S) n.rl B) (G.set b (.cells false false (blz (xHt (stU S) n.rl B))) ++ T1) (by omega) (by rw [xYV]; exact hB) (xAu (by rw [List.getElem?_set_ne (fun h => hpb h.symm)]; exact hp)) (xAu (by rw [List.getElem?_set_self lo]))
  rw [xJU (x := .cells false false (blz (xHt (stU S) n.rl B))) (by rw [List.getElem?_set_self lo]),List.set_set,List.append_assoc] at h2
  refine ⟨T1 ++ T2,?_⟩
  rw [xKk,yBI]
  simp (maxSteps := 30000000) (disch := first | assumption | omega | (simp only [WL,AV.isCell,xAb,xAa,xAq] <;> omega) | rfl | decide) only [xUn,WB,hp,hn,hlt,↓reduceIte,xPh,h1,xXt,h2]
theorem yBc (n : Aut) {s : Nat} (hn : n.states = (s : Nat)) (hs : s ≤ 64) (h1 : n.st.length < 1000000) (h2 : n.fi.length < 1000000) (hl : n.rl.length < 1000000) (hq : ∀ q ∈ n.st,0 ≤ q ∧ q < (s : Int)) (hf : ∀ q ∈ n.fi,0 ≤ q ∧ q < (s : Int)) (hr : RlS s n.rl) : L.pcall 59 [n.av] = some (.sl false s (blz (xV7 s n (xJ5 s n)))) := by
 have h85 := xY4 n hn hs
 have h56 := xYX n hn hs h1 hl hq hr
 have hlT := xNu s n
 have hp := yFw (n := n) (p := 0) (b := 1) (S := xJ5 s n) (by decide) h2 hs hlT hf n.fi.length 0 (List.replicate s false) [.cells false false n.cells,.cells false false (blz (List.replicate s false))] (by omega) (by simp) rfl rfl
 obtain ⟨T,hr⟩ := xU8 (n := n) (p := 0) (b := 1) (S := xJ5 s n) hn (by decide) hs hl hr hlT s 0 (putS (xJ5 s n) (n.fi.map Int.toNat) (List.replicate s false)) [.cells false false n.cells,.cells false false (blz (putS (xJ5 s n) (n.fi.map Int.toNat) (List.replicate s false)))] (by omega) (by rw [xNv,List.length_replicate]) rfl rfl
 simp only [Int.natCast_zero,List.drop_zero] at hp hr
 have hlen := xQw s n (xJ5 s n)
 have ht := xNt (xV7 s n (xJ5 s n))
 have hbl := xAq (xV7 s n (xJ5 s n))
 have hfz := fun d H => xGB d H (xV7 s n (xJ5 s n))
 rw [hlen] at ht hbl
 have e : xKk (stU (xJ5 s n)) n.rl s (putS (xJ5 s n) (n.fi.map Int.toNat) (List.replicate s false)) = xV7 s n (xJ5 s n) := rfl
 rw [e] at hr
 generalize blz (xV7 s n (xJ5 s n)) = LB at *
 generalize blz (putS (xJ5 s n) (n.fi.map Int.toNat) (List.replicate s false)) = LC at *
 generalize blz (xJ5 s n) = LS at *
 rw [yH9,a59,xAd]
 simp (maxSteps := 30000000) (disch := first | assumption | omega | (simp only [WL,AV.isCell,xAb,xAa,xAq] <;> omega) | rfl | decide) only [WB,Nat.reduceSub,AV.cells,AV.isCell,↓reduceIte,WP,h56,xE0,xAJ,h85,xCY,xD9,xCJ,xXs,hp,xXt,hr,xDT,ht,hfz]
section
variable {n : Aut} {z : Bool} {t : List Lf} {s : Nat}
theorem yFx (hn : n.states = (s : Nat)) (hs : s ≤ 64) (h1 : n.st.length < 1000000) (hl : n.rl.length < 1000000) (hq : ∀ q ∈ n.st,0 ≤ q ∧ q < (s : Int)) (hr : RlS s n.rl) (htl : t.length < 1000000) (hx : ∀ e ∈ t,e.x < 256) {T : BT} (hF : Formed t T) :
  ∃ (c : Int) (K : List Bool),L.pcall 53 [tw z t] = some (.int .i64 c) ∧ L.pcall 52 [n.av,tw z t,.int .i64 c] = some (.sl false s (blz K)) ∧ K.length = s ∧ ∀ j,K.getD j false = (ev (xIT 0 n.st) n.rl T).testBit j := by
 have h53 := yFz z t (by omega)
 rcases hF with ⟨rfl,rfl⟩ | ⟨h31,hS⟩
 ·obtain ⟨K,k1,k2,k3⟩ := xVb (z := z) hn hs h1 hl hq hr htl hx (Sub.none (t := []) 0)
  exact ⟨-1,K,h53,k1,k2,k3⟩
 ·have h0 : ¬ t.length = 0 := by
   intro h0
   cases hS with
   | some hm _ _ => omega
  rw [if_neg h0] at h53
  obtain ⟨K,k1,k2,k3⟩ := xVb (z := z) hn hs h1 hl hq hr htl hx hS
  exact ⟨0,K,h53,k1,k2,k3⟩
theorem xYZ {e : Int} (he : e ≠ 0) (h15 : L.pcall 15 [n.av] = some (.int .i64 e)) : L.pcall 17 [n.av,tw z t] = some (.tup [.sl true 0 [],.int .i64 e]) := by
 rw [yGd,a17,xAd]
 simp (maxSteps := 30000000) (disch := first | assumption | omega | (simp only [WL,AV.isCell,xAb,xAa,xAq] <;> omega) | rfl | decide) only [WB,Nat.reduceAdd,Nat.reduceSub,AV.cells,AV.isCell,↓reduceIte,h15,xE0,xAJ,he]
theorem xY0 {e : Int} (he : e ≠ 0) (h15 : L.pcall 15 [n.av] = some (.int .i64 0)) (h50 : L.pcall 50 [tw z t,.int .i64 n.vars] = some (.int .i64 e)) : L.pcall 17 [n.av,tw z t] = some (.tup [.sl true 0 [],.int .i64 e]) := by
 rw [yGd,a17,xAd]
 simp (maxSteps := 30000000) (disch := first | assumption | omega | (simp only [WL,AV.isCell,xAb,xAa,xAq] <;> omega) | rfl | decide) only [WB,Nat.reduceAdd,Nat.reduceSub,AV.cells,AV.isCell,↓reduceIte,h15,xE0,xAJ,h50,he]
theorem yD5 {c : Int} {LK : List AV} {zz : Bool} {r : List Nat} (h15 : L.pcall 15 [n.av] = some (.int .i64 0)) (h50 : L.pcall 50 [tw z t,.int .i64 n.vars] = some (.int .i64 0)) (h53 : L.pcall 53 [tw z t] = some (.int .i64 c)) (h52 : L.pcall 52 [n.av,tw z t,.int .i64 c] = some (.sl false s LK)) (h51 : L.pcall 51 [.sl false s LK] = some (sw zz r)) :
  L.pcall 17 [n.av,tw z t] = some (.tup [sw zz r,.int .i64 0]) := by
 rw [yGd,a17,xAd]
 simp (maxSteps := 30000000) (disch := first | assumption | omega | (simp only [WL,AV.isCell,xAb,xAa,xAq] <;> omega) | rfl | decide) only [WB,Nat.reduceAdd,Nat.reduceSub,AV.cells,AV.isCell,↓reduceIte,h15,xE0,xAJ,h50,h53,xAm,h52,h51]
theorem yBd {e : Int} (he : e ≠ 0) (h15 : L.pcall 15 [n.av] = some (.int .i64 e)) : L.pcall 21 [n.av] = some (.tup [.sl true 0 [],.int .i64 e]) := by
 rw [yGO,a21,xAd]
 simp (maxSteps := 30000000) (disch := first | assumption | omega | (simp only [WL,AV.isCell,xAb,xAa,xAq] <;> omega) | rfl | decide) only [WB,Nat.reduceSub,AV.cells,AV.isCell,↓reduceIte,h15,xE0,xAJ,he]
theorem yD6 {LK : List AV} {zz : Bool} {r : List Nat} (h15 : L.pcall 15 [n.av] = some (.int .i64 0)) (h56 : L.pcall 56 [n.av] = some (.sl false s LK)) (h51 : L.pcall 51 [.sl false s LK] = some (sw zz r)) :
  L.pcall 21 [n.av] = some (.tup [sw zz r,.int .i64 0]) := by
 rw [yGO,a21,xAd]
 simp (maxSteps := 30000000) (disch := first | assumption | omega | (simp only [WL,AV.isCell,xAb,xAa,xAq] <;> omega) | rfl | decide) only [WB,Nat.reduceSub,AV.cells,AV.isCell,↓reduceIte,h15,xE0,xAJ,h56,h51]
theorem xY1 {e : Int} (he : e ≠ 0) (h15 : L.pcall 15 [n.av] = some (.int .i64 e)) : L.pcall 19 [n.av,tw z t] = some (.tup [.bool false,.int .i64 e]) := by
 rw [yFQ,a19,xAd]
 simp (maxSteps := 30000000) (disch := first | assumption | omega | (simp only [WL,AV.isCell,xAb,xAa,xAq] <;> omega) | rfl | decide) only [WB,Nat.reduceAdd,Nat.reduceSub,AV.cells,AV.isCell,↓reduceIte,h15,xE0,xAJ,he]
theorem xY2 {e : Int} (he : e ≠ 0) (h15 : L.pcall 15 [n.av] = some (.int .i64 0)) (h50 : L.pcall 50 [tw z t,.int .i64 n.vars] = some (.int .i64 e)) : L.pcall 19 [n.av,tw z t] = some (.tup [.bool false,.int .i64 e]) := by
 rw [yFQ,a19,xAd]
 simp (maxSteps := 30000000) (disch := first | assumption | omega | (simp only [WL,AV.isCell,xAb,xAa,xAq] <;> omega) | rfl | decide) only [WB,Nat.reduceAdd,Nat.reduceSub,AV.cells,AV.isCell,↓reduceIte,h15,xE0,xAJ,h50,he]
theorem xSO {K : List Bool} {s4 s5 : AV} {p : Nat} {H : Heap} (hl : n.fi.length < 1000000) (hs : s ≤ 64) (hK : K.length = s) (hq : ∀ q ∈ n.fi,0 ≤ q ∧ q < (s : Int)) (hp : H[p]? = some (.cells false false n.cells)) : ∀ d i,i + d = n.fi.length →
  ∃ i' : Nat,L.loop xQ3 xZW ⟨xO1 (.ptr p 0) s4 s5 (.sl false s (blz K)) (.int .i64 (i : Nat)),H⟩ =
   some (if (n.fi.drop i).any (fun q => K.getD q.toNat false) = true then (.ret,⟨xO1 (.ptr p 0) (.bool true) (.int .i64 0) (.sl false s (blz K)) (.int .i64 (i' : Nat)),H⟩) else (.exit 0,⟨xO1 (.ptr p 0) s4 s5 (.sl false s (blz K)) (.int .i64 (n.fi.length : Nat)),H⟩))
 | 0,i,h => by
  obtain rfl : i = n.fi.length := by omega
  refine ⟨0,?_⟩
  rw [if_neg (by simp),xT3]
  simp (maxSteps := 30000000) (disch := first | assumption | omega | (simp only [WL,AV.isCell,xAb,xAa,xAq] <;> omega) | rfl | decide) only [xO0,WB,hp,↓reduceIte,xO2]
 | d + 1,i,h => by
  have hlt : (i : Int) < (n.fi.length : Nat) := by omega
  have hm : n.fi.getD i 0 ∈ n.fi := by
   rw [List.getD_eq_getElem?_getD,List.getElem?_eq_getElem (by omega)]
   exact List.getElem_mem _
  obtain ⟨h0,h1⟩ := hq _ hm
  rw [xHA (by omega : i < n.fi.length),List.any_cons]
  generalize hx : n.fi.getD i 0 = x at *
  obtain ⟨q,rfl⟩ := Int.eq_ofNat_of_zero_le h0
  have hqs' : q < s := by omega
  have hqI : ((q : Nat) : Int) < (s : Nat) := by omega
  have hkl := xAq K
  rw [hK] at hkl
  have hat := xFu (l := K) (k := q) (by omega)
  rw [Int.toNat_natCast]
  cases c : K.getD q false with
  | true =>
   rw [c] at hat
   refine ⟨i,?_⟩
   rw [Bool.true_or,if_pos rfl]
   generalize blz K = LK at *
   rw [xT3]
   simp (maxSteps := 30000000) (disch := first | assumption | omega | (simp only [WL,AV.isCell,xAb,xAa,xAq] <;> omega) | rfl | decide) only [xO0,WB,hp,hlt,↓reduceIte,W2,hx,hat,xO2]
  | false =>
   rw [c] at hat
   obtain ⟨i',ih⟩ := xSO (s4 := s4) (s5 := s5) hl hs hK hq hp d (i + 1) (by omega)
   refine ⟨i',?_⟩
   rw [Bool.false_or]
   by_cases e2 : (n.fi.drop (i + 1)).any (fun q => K.getD q.toNat false) = true
   ·rw [if_pos e2] at ih ⊢
    generalize blz K = LK at *
    rw [xT3]
    simp (maxSteps := 30000000) (disch := first | assumption | omega | (simp only [WL,AV.isCell,xAb,xAa,xAq] <;> omega) | rfl | decide) only [xO0,WB,hp,hlt,↓reduceIte,W2,hx,hat,xO2,ih]
   ·rw [if_neg e2] at ih ⊢
    generalize blz K = LK at *
    rw [xT3]
    simp (maxSteps := 30000000) (disch := first | assumption | omega | (simp only [WL,AV.isCell,xAb,xAa,xAq] <;> omega) | rfl | decide) only [xO0,WB,hp,hlt,↓reduceIte,W2,hx,hat,xO2,ih]
theorem yD7 {c : Int} {K : List Bool} (hl : n.fi.length < 1000000) (hs : s ≤ 64) (hK : K.length = s) (hq : ∀ q ∈ n.fi,0 ≤ q ∧ q < (s : Int)) (h15 : L.pcall 15 [n.av] = some (.int .i64 0)) (h50 : L.pcall 50 [tw z t,.int .i64 n.vars] = some (.int .i64 0)) (h53 : L.pcall 53 [tw z t] = some (.int .i64 c)) (h52 : L.pcall 52 [n.av,tw z t,.int .i64 c] = some (.sl false s (blz K))) :
  L.pcall 19 [n.av,tw z t] = some (.tup [.bool (n.fi.any fun q => K.getD q.toNat false),.int .i64 0]) := by
 obtain ⟨i',hlp⟩ := xSO (n := n) (s := s) (K := K) (s4 := .bool false) (s5 := .int .i64 0) (p := 0) (H := [.cells false false n.cells]) hl hs hK hq rfl n.fi.length 0 (by omega)
 simp only [Int.natCast_zero,List.drop_zero] at hlp
 cases e2 : n.fi.any fun q => K.getD q.toNat false with
 | true =>
  rw [if_pos e2] at hlp
  rw [yFQ,a19,xAd]
  simp (maxSteps := 30000000) (disch := first | assumption | omega | (simp only [WL,AV.isCell,xAb,xAa,xAq] <;> omega) | rfl | decide) only [WB,Nat.reduceAdd,Nat.reduceSub,AV.cells,AV.isCell,↓reduceIte,h15,xE0,xAJ,h50,h53,xAm,h52,xO2,hlp]
 | false =>
  rw [if_neg (by rw [e2]; simp)] at hlp
  rw [yFQ,a19,xAd]
  simp (maxSteps := 30000000) (disch := first | assumption | omega | (simp only [WL,AV.isCell,xAb,xAa,xAq] <;> omega) | rfl | decide) only [WB,Nat.reduceAdd,Nat.reduceSub,AV.cells,AV.isCell,↓reduceIte,h15,xE0,xAJ,h50,h53,xAm,h52,xO2,hlp]
end
end Go.Abs.Tree
