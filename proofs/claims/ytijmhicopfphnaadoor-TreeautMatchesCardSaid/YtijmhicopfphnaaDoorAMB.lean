/- The reference: reachable. -/
import Derived.Test.YtijmhicopfphnaaDoorAbsBun
import Derived.Test.YtijmhicopfphnaaDoorAMA
import Derived.Test.YtijmhicopfphnaaDoorAR1
namespace Go.Abs.Tree
open Go Go.Abs
set_option linter.unusedSimpArgs false
set_option linter.unusedVariables false
theorem yEF {n : Aut} {p b s : Nat} (hpb : p ≠ b) (hl : n.st.length < 1000000) (hs : s ≤ 64) (hq : ∀ q ∈ n.st,0 ≤ q ∧ q < (s : Int)) : ∀ d i B G,i + d = n.st.length → B.length = s → G[p]? = some (.cells false false n.cells) → G[b]? = some (.cells false false (blz B)) →
  L.loop xNQ xYX ⟨xNR (.ptr p 0) (.own false b 0 s 1) (.int .i64 (i : Nat)),G⟩ =
   some (.exit 0,⟨xNR (.ptr p 0) (.own false b 0 s 1) (.int .i64 (n.st.length : Nat)),G.set b (.cells false false (blz (xFM ((n.st.drop i).map Int.toNat) B)))⟩)
 | 0,i,B,G,h,hB,hp,hG => by
  obtain rfl : i = n.st.length := by omega
  rw [List.drop_length,List.map_nil,xFM,xCo hG,yAe]
  simp (maxSteps := 30000000) (disch := first | assumption | omega | (simp only [WL,AV.isCell,xAb,xAa,xAL] <;> omega) | rfl | decide) only [↓reduceIte,WB,xAW,xAd,xAV,xAm,xAl,AV.cells,AV.isCell,xAc,xAi,xAj,xAz,xAA,xAB,xAC,xAD,xAE,xAX,xAF,xAG,xAn,xAH,xAo,xAp,xAI,xAq,xAr,xAk,Nat.reduceDiv,Nat.reduceMod,WP,xAT,xAM,xBm,xBl,xBk,xAP,xAS,xAN,W2,xAe,xAf,xAh,Nat.reduceAdd,Nat.reduceSub,Nat.reduceLeDiff,Nat.reduceMul,Int.reduceAdd,Int.reduceSub,Int.reduceMul,Int.reduceLT,Int.reduceLE,Int.reduceEq,Int.reduceToNat,Int.reduceNeg,Nat.reduceEqDiff,Nat.reduceBEq,Nat.reduceLT,xAb,xAJ,xAv,xAw,lfs_at0',xAa,xAs,xAx,xAy,xAQ,xAR,xA1,xAY,xAZ,xA5,xRq,xVl,hp]
 | d + 1,i,B,G,h,hB,hp,hG => by
  have hlt : (i : Int) < (n.st.length : Nat) := by omega
  have hm : n.st.getD i 0 ∈ n.st := by
   rw [List.getD_eq_getElem?_getD,List.getElem?_eq_getElem (by omega)]
   exact List.getElem_mem _
  obtain ⟨h0,h1⟩ := hq _ hm
  rw [xCw (by omega : i < n.st.length),List.map_cons,xFM]
  generalize hx : n.st.getD i 0 = x at *
  obtain ⟨q,rfl⟩ := Int.eq_ofNat_of_zero_le h0
  have hqs : q < B.length := by omega
  have hst := xFL (x := true) hqs
  have hbl := xAL B
  rw [hB] at hbl
  have lo := (List.getElem?_eq_some_iff.1 hG).1
  have ih := yEF (n := n) (p := p) (b := b) (s := s) hpb hl hs hq d (i + 1) (B.set q true) (G.set b (.cells false false (blz (B.set q true)))) (by omega) (by simpa using hB) (by rw [List.getElem?_set_ne (fun e => hpb e.symm)]; exact hp) (by rw [List.getElem?_set_self lo])
  rw [List.set_set,← hst] at ih
  rw [Int.toNat_natCast]
  have hqs' : q < s := by omega
  have hqI : ((q : Nat) : Int) < (s : Nat) := by omega
  generalize blz B = LB at *
  rw [yAe]
  simp (maxSteps := 30000000) (disch := first | assumption | omega | (simp only [WL,AV.isCell,xAb,xAa,xAL] <;> omega) | rfl | decide) only [↓reduceIte,WB,xAW,xAd,xAV,xAm,xAl,AV.cells,AV.isCell,xAc,xAi,xAj,xAz,xAA,xAB,xAC,xAD,xAE,xAX,xAF,xAG,xAn,xAH,xAo,xAp,xAI,xAq,xAr,xAk,Nat.reduceDiv,Nat.reduceMod,WP,xAT,xAM,xBm,xBl,xBk,xAP,xAS,xAN,W2,xAe,xAf,xAh,Nat.reduceAdd,Nat.reduceSub,Nat.reduceLeDiff,Nat.reduceMul,Int.reduceAdd,Int.reduceSub,Int.reduceMul,Int.reduceLT,Int.reduceLE,Int.reduceEq,Int.reduceToNat,Int.reduceNeg,Nat.reduceEqDiff,Nat.reduceBEq,Nat.reduceLT,xAb,xAJ,xAv,xAw,lfs_at0',xAa,xAs,xAx,xAy,xAQ,xAR,xA1,xAY,xAZ,xA5,xRq,xVl,hp,hlt,hx,hG,hbl,hqs',hqI,ih]
theorem xXL (l : List Rl) (B : List Bool) : (xB5 stT l B).length = B.length := (xE8 xPY l B).len.symm
theorem xXM (S : List Bool) (l : List Rl) (B : List Bool) : (xB5 (stU S) l B).length = B.length := (xE8 (xPZ S) l B).len.symm
set_option maxHeartbeats 4000000 in
theorem xXN {n : Aut} {p b s : Nat} {s5 : AV} (hpb : p ≠ b) (hs : s ≤ 64) (hl : n.rl.length < 1000000) (hr : RlS s n.rl) : ∀ d i B G,i + d = n.rl.length → B.length = s → G[p]? = some (.cells false false n.cells) → G[b]? = some (.cells false false (blz B)) →
  ∃ T,L.loop xNS xYY ⟨xNT (.ptr p 0) (.own false b 0 s 1) s5 (.int .i64 (i : Nat)),G⟩ =
   some (.exit 4,⟨xNT (.ptr p 0) (.own false b 0 s 1) s5 (.int .i64 (n.rl.length : Nat)),G.set b (.cells false false (blz (xB5 stT (n.rl.drop i) B))) ++ T⟩)
 | 0,i,B,G,h,hB,hp,hG => by
  obtain rfl : i = n.rl.length := by omega
  refine ⟨[],?_⟩
  rw [List.drop_length,xB5,xCo hG,List.append_nil,xRr]
  simp (maxSteps := 30000000) (disch := first | assumption | omega | (simp only [WL,AV.isCell,xAb,xAa,xAL] <;> omega) | rfl | decide) only [↓reduceIte,WB,xAW,xAd,xAV,xAm,xAl,AV.cells,AV.isCell,xAc,xAi,xAj,xAz,xAA,xAB,xAC,xAD,xAE,xAX,xAF,xAG,xAn,xAH,xAo,xAp,xAI,xAq,xAr,xAk,Nat.reduceDiv,Nat.reduceMod,WP,xAT,xAM,xBm,xBl,xBk,xAP,xAS,xAN,W2,xAe,xAf,xAh,Nat.reduceAdd,Nat.reduceSub,Nat.reduceLeDiff,Nat.reduceMul,Int.reduceAdd,Int.reduceSub,Int.reduceMul,Int.reduceLT,Int.reduceLE,Int.reduceEq,Int.reduceToNat,Int.reduceNeg,Nat.reduceEqDiff,Nat.reduceBEq,Nat.reduceLT,xAb,xAJ,xAv,xAw,lfs_at0',xAa,xAs,xAx,xAy,xAQ,xAR,xA1,xAY,xAZ,xA5,xKv,xNU,hp]
 | d + 1,i,B,G,h,hB,hp,hG => by
  have hlt : (i : Int) < (n.rl.length : Nat) := by omega
  obtain ⟨⟨l0,l1⟩,⟨q0,q1⟩,⟨t0,t1⟩,p1,n1⟩ := hr.h _ (xC0 (by omega : i < n.rl.length))
  have hat := xAs (show i < n.rl.length by omega)
  rw [xCv (by omega : i < n.rl.length),xB5]
  generalize n.rl.getD i r0 = u at *
  obtain ⟨ul,ur,ut,up,un⟩ := u
  simp only at l0 l1 q0 q1 t0 t1 p1 n1 hat
  obtain ⟨xl,rfl⟩ := Int.eq_ofNat_of_zero_le l0
  obtain ⟨xr,rfl⟩ := Int.eq_ofNat_of_zero_le q0
  obtain ⟨xt,rfl⟩ := Int.eq_ofNat_of_zero_le t0
  have la : xl < s := by omega
  have lb : xr < s := by omega
  have lc : xt < s := by omega
  have laI : ((xl : Nat) : Int) < (s : Nat) := by omega
  have lbI : ((xr : Nat) : Int) < (s : Nat) := by omega
  have lcI : ((xt : Nat) : Int) < (s : Nat) := by omega
  have lo := (List.getElem?_eq_some_iff.1 hG).1
  have hbl := xAL B
  rw [hB] at hbl
  have hg0 : ∀ y : Blk,(G ++ [y])[b]? = some (.cells false false (blz B)) := fun y => xA8 hG
  have ata := xA1 (l := B) (k := xl) (by omega)
  have atb := xA1 (l := B) (k := xr) (by omega)
  have hsc := xFL (l := B) (k := xt) (x := true) (by omega)
  obtain ⟨T1,same⟩ := xXN (s5 := s5) hpb hs hl hr d (i + 1) B (G ++ [Blk.cells false false [.int .i64 (xl : Nat),.int .i64 (xr : Nat),.int .i64 (xt : Nat),.int .u8 (up : Nat),.int .u8 (un : Nat)]]) (by omega) hB (xA8 hp) (xA8 hG)
  obtain ⟨T2,more⟩ := xXN (s5 := s5) hpb hs hl hr d (i + 1) (B.set xt true) ((G ++ [Blk.cells false false [.int .i64 (xl : Nat),.int .i64 (xr : Nat),.int .i64 (xt : Nat),.int .u8 (up : Nat),.int .u8 (un : Nat)]]).set b (.cells false false (blz (B.set xt true)))) (by omega) (by simpa using hB) (by rw [List.getElem?_set_ne (fun h => hpb h.symm)]; exact xA8 hp) (by rw [List.getElem?_set_self (by simp; omega)])
  rw [xDJ hG,List.append_assoc] at same
  rw [List.set_set,xDJ hG,xDJ hG,List.append_assoc,← hsc] at more
  by_cases c1 : B.getD xl false = true
  ·rw [c1] at ata
   by_cases c2 : B.getD xr false = true
   ·rw [c2] at atb
    refine ⟨Blk.cells false false [.int .i64 (xl : Nat),.int .i64 (xr : Nat),.int .i64 (xt : Nat),.int .u8 (up : Nat),.int .u8 (un : Nat)] :: T2,?_⟩
    rw [stT,if_pos ⟨by simpa using c1,by simpa using c2⟩]
    simp only [Int.toNat_natCast]
    clear same hsc
    generalize blz B = LB at *
    rw [xRr]
    simp (maxSteps := 30000000) (disch := first | assumption | omega | (simp only [WL,AV.isCell,xAb,xAa,xAL] <;> omega) | rfl | decide) only [↓reduceIte,WB,xAW,xAd,xAV,xAm,xAl,AV.cells,AV.isCell,xAc,xAi,xAj,xAz,xAA,xAB,xAC,xAD,xAE,xAX,xAF,xAG,xAn,xAH,xAo,xAp,xAI,xAq,xAr,xAk,Nat.reduceDiv,Nat.reduceMod,WP,xAT,xAM,xBm,xBl,xBk,xAP,xAS,xAN,W2,xAe,xAf,xAh,Nat.reduceAdd,Nat.reduceSub,Nat.reduceLeDiff,Nat.reduceMul,Int.reduceAdd,Int.reduceSub,Int.reduceMul,Int.reduceLT,Int.reduceLE,Int.reduceEq,Int.reduceToNat,Int.reduceNeg,Nat.reduceEqDiff,Nat.reduceBEq,Nat.reduceLT,xAb,xAJ,xAv,xAw,lfs_at0',xAa,xAs,xAx,xAy,xAQ,xAR,xA1,xAY,xAZ,xA5,xKv,xNU,hp,hlt,hat,hg0,hG,hbl,la,laI,lb,lbI,lc,lcI,ata,atb,xDJ hG,more]
   ·have c2' : B.getD xr false = false := by simpa using c2
    rw [c2'] at atb
    refine ⟨Blk.cells false false [.int .i64 (xl : Nat),.int .i64 (xr : Nat),.int .i64 (xt : Nat),.int .u8 (up : Nat),.int .u8 (un : Nat)] :: T1,?_⟩
    rw [stT,if_neg (fun h => c2 (by simpa using h.2))]
    clear more hsc
    generalize blz B = LB at *
    rw [xRr]
    simp (maxSteps := 30000000) (disch := first | assumption | omega | (simp only [WL,AV.isCell,xAb,xAa,xAL] <;> omega) | rfl | decide) only [↓reduceIte,WB,xAW,xAd,xAV,xAm,xAl,AV.cells,AV.isCell,xAc,xAi,xAj,xAz,xAA,xAB,xAC,xAD,xAE,xAX,xAF,xAG,xAn,xAH,xAo,xAp,xAI,xAq,xAr,xAk,Nat.reduceDiv,Nat.reduceMod,WP,xAT,xAM,xBm,xBl,xBk,xAP,xAS,xAN,W2,xAe,xAf,xAh,Nat.reduceAdd,Nat.reduceSub,Nat.reduceLeDiff,Nat.reduceMul,Int.reduceAdd,Int.reduceSub,Int.reduceMul,Int.reduceLT,Int.reduceLE,Int.reduceEq,Int.reduceToNat,Int.reduceNeg,Nat.reduceEqDiff,Nat.reduceBEq,Nat.reduceLT,xAb,xAJ,xAv,xAw,lfs_at0',xAa,xAs,xAx,xAy,xAQ,xAR,xA1,xAY,xAZ,xA5,xKv,xNU,hp,hlt,hat,hg0,hG,hbl,la,laI,lb,lbI,lc,lcI,ata,atb,same]
  ·have c1' : B.getD xl false = false := by simpa using c1
   rw [c1'] at ata
   refine ⟨Blk.cells false false [.int .i64 (xl : Nat),.int .i64 (xr : Nat),.int .i64 (xt : Nat),.int .u8 (up : Nat),.int .u8 (un : Nat)] :: T1,?_⟩
   rw [stT,if_neg (fun h => c1 (by simpa using h.1))]
   clear more hsc
   generalize blz B = LB at *
   rw [xRr]
   simp (maxSteps := 30000000) (disch := first | assumption | omega | (simp only [WL,AV.isCell,xAb,xAa,xAL] <;> omega) | rfl | decide) only [↓reduceIte,WB,xAW,xAd,xAV,xAm,xAl,AV.cells,AV.isCell,xAc,xAi,xAj,xAz,xAA,xAB,xAC,xAD,xAE,xAX,xAF,xAG,xAn,xAH,xAo,xAp,xAI,xAq,xAr,xAk,Nat.reduceDiv,Nat.reduceMod,WP,xAT,xAM,xBm,xBl,xBk,xAP,xAS,xAN,W2,xAe,xAf,xAh,Nat.reduceAdd,Nat.reduceSub,Nat.reduceLeDiff,Nat.reduceMul,Int.reduceAdd,Int.reduceSub,Int.reduceMul,Int.reduceLT,Int.reduceLE,Int.reduceEq,Int.reduceToNat,Int.reduceNeg,Nat.reduceEqDiff,Nat.reduceBEq,Nat.reduceLT,xAb,xAJ,xAv,xAw,lfs_at0',xAa,xAs,xAx,xAy,xAQ,xAR,xA1,xAY,xAZ,xA5,xKv,xNU,hp,hlt,hat,hg0,hG,hbl,la,laI,lb,lbI,lc,lcI,ata,same]
theorem xTb {n : Aut} {p b s : Nat} (hn : n.states = (s : Nat)) (hpb : p ≠ b) (hs : s ≤ 64) (hl : n.rl.length < 1000000) (hr : RlS s n.rl) : ∀ d i B G,i + d = s → B.length = s → G[p]? = some (.cells false false n.cells) → G[b]? = some (.cells false false (blz B)) →
  ∃ T,L.loop xNV xYZ ⟨xNW (.ptr p 0) (.own false b 0 s 1) (.int .i64 (i : Nat)),G⟩ =
   some (.exit 2,⟨xNW (.ptr p 0) (.own false b 0 s 1) (.int .i64 (s : Nat)),G.set b (.cells false false (blz (xD9 stT n.rl d B))) ++ T⟩)
 | 0,i,B,G,h,hB,hp,hG => by
  obtain rfl : i = s := by omega
  refine ⟨[],?_⟩
  rw [xD9,xCo hG,List.append_nil,yAf]
  simp (maxSteps := 30000000) (disch := first | assumption | omega | (simp only [WL,AV.isCell,xAb,xAa,xAL] <;> omega) | rfl | decide) only [↓reduceIte,WB,xAW,xAd,xAV,xAm,xAl,AV.cells,AV.isCell,xAc,xAi,xAj,xAz,xAA,xAB,xAC,xAD,xAE,xAX,xAF,xAG,xAn,xAH,xAo,xAp,xAI,xAq,xAr,xAk,Nat.reduceDiv,Nat.reduceMod,WP,xAT,xAM,xBm,xBl,xBk,xAP,xAS,xAN,W2,xAe,xAf,xAh,Nat.reduceAdd,Nat.reduceSub,Nat.reduceLeDiff,Nat.reduceMul,Int.reduceAdd,Int.reduceSub,Int.reduceMul,Int.reduceLT,Int.reduceLE,Int.reduceEq,Int.reduceToNat,Int.reduceNeg,Nat.reduceEqDiff,Nat.reduceBEq,Nat.reduceLT,xAb,xAJ,xAv,xAw,lfs_at0',xAa,xAs,xAx,xAy,xAQ,xAR,xA1,xAY,xAZ,xA5,xRs,xVm,hp,hn]
 | d + 1,i,B,G,h,hB,hp,hG => by
  have hlt : (i : Int) < (s : Nat) := by omega
  have lo := (List.getElem?_eq_some_iff.1 hG).1
  obtain ⟨T1,h1⟩ := xXN (s5 := .int .i64 (i : Nat)) hpb hs hl hr n.rl.length 0 B G (by omega) hB hp hG
  simp only [Int.natCast_zero,List.drop_zero] at h1
  obtain ⟨T2,h2⟩ := xTb hn hpb hs hl hr d (i + 1) (xB5 stT n.rl B) (G.set b (.cells false false (blz (xB5 stT n.rl B))) ++ T1) (by omega) (by rw [xXL]; exact hB) (xA8 (by rw [List.getElem?_set_ne (fun h => hpb h.symm)]; exact hp)) (xA8 (by rw [List.getElem?_set_self lo]))
  rw [xDJ (x := .cells false false (blz (xB5 stT n.rl B))) (by rw [List.getElem?_set_self lo]),List.set_set,List.append_assoc] at h2
  refine ⟨T1 ++ T2,?_⟩
  rw [xD9,yAf]
  simp (maxSteps := 30000000) (disch := first | assumption | omega | (simp only [WL,AV.isCell,xAb,xAa,xAL] <;> omega) | rfl | decide) only [↓reduceIte,WB,xAW,xAd,xAV,xAm,xAl,AV.cells,AV.isCell,xAc,xAi,xAj,xAz,xAA,xAB,xAC,xAD,xAE,xAX,xAF,xAG,xAn,xAH,xAo,xAp,xAI,xAq,xAr,xAk,Nat.reduceDiv,Nat.reduceMod,WP,xAT,xAM,xBm,xBl,xBk,xAP,xAS,xAN,W2,xAe,xAf,xAh,Nat.reduceAdd,Nat.reduceSub,Nat.reduceLeDiff,Nat.reduceMul,Int.reduceAdd,Int.reduceSub,Int.reduceMul,Int.reduceLT,Int.reduceLE,Int.reduceEq,Int.reduceToNat,Int.reduceNeg,Nat.reduceEqDiff,Nat.reduceBEq,Nat.reduceLT,xAb,xAJ,xAv,xAw,lfs_at0',xAa,xAs,xAx,xAy,xAQ,xAR,xA1,xAY,xAZ,xA5,xRs,xVm,hp,hn,hlt,xNU,h1,h2]
theorem xXO (n : Aut) {s : Nat} (hn : n.states = (s : Nat)) (hs : s ≤ 64) (h1 : n.st.length < 1000000) (hl : n.rl.length < 1000000) (hq : ∀ q ∈ n.st,0 ≤ q ∧ q < (s : Int)) (hr : RlS s n.rl) : L.pcall 56 [n.av] = some (.sl false s (blz (xDR s n))) := by
 have h85 := xXV n hn hs
 have hp := yEF (n := n) (p := 0) (b := 1) (by decide) h1 hs hq n.st.length 0 (List.replicate s false) [.cells false false n.cells,.cells false false (blz (List.replicate s false))] (by omega) (by simp) rfl rfl
 obtain ⟨T,hr⟩ := xTb (n := n) (p := 0) (b := 1) hn (by decide) hs hl hr s 0 (xFM (n.st.map Int.toNat) (List.replicate s false)) [.cells false false n.cells,.cells false false (blz (xFM (n.st.map Int.toNat) (List.replicate s false)))] (by omega) (by rw [xFl,List.length_replicate]) rfl rfl
 simp only [Int.natCast_zero,List.drop_zero] at hp hr
 have hlen := xHE s n
 have ht := xHD (xDR s n)
 have hbl := xAL (xDR s n)
 have hfz := fun d H => xAY d H (xDR s n)
 rw [hlen] at ht hbl
 change L.loop _ _ _ = some (_,⟨_,_ ++ T⟩) at hr
 have e : xD9 stT n.rl s (xFM (n.st.map Int.toNat) (List.replicate s false)) = xDR s n := rfl
 rw [e] at hr
 generalize blz (xDR s n) = LB at *
 generalize blz (xFM (n.st.map Int.toNat) (List.replicate s false)) = LC at *
 rw [yG7,a56,xAu]
 simp (maxSteps := 30000000) (disch := first | assumption | omega | (simp only [WL,AV.isCell,xAb,xAa,xAL] <;> omega) | rfl | decide) only [↓reduceIte,WB,xAW,xAd,xAV,xAm,xAl,AV.cells,AV.isCell,xAc,xAi,xAj,xAz,xAA,xAB,xAC,xAD,xAE,xAX,xAF,xAG,xAn,xAH,xAo,xAp,xAI,xAq,xAr,xAk,Nat.reduceDiv,Nat.reduceMod,WP,xAT,xAM,xBm,xBl,xBk,xAP,xAS,xAN,W2,xAe,xAf,xAh,Nat.reduceAdd,Nat.reduceSub,Nat.reduceLeDiff,Nat.reduceMul,Int.reduceAdd,Int.reduceSub,Int.reduceMul,Int.reduceLT,Int.reduceLE,Int.reduceEq,Int.reduceToNat,Int.reduceNeg,Nat.reduceEqDiff,Nat.reduceBEq,Nat.reduceLT,xAb,xAJ,xAv,xAw,lfs_at0',xAa,xAs,xAx,xAy,xAQ,xAR,xA1,xAY,xAZ,xA5,h85,xVl,hp,xVm,hr,ht,hbl,hfz]
set_option maxHeartbeats 2000000 in
theorem yEG {n : Aut} {p b s : Nat} {S : List Bool} (hpb : p ≠ b) (hl : n.fi.length < 1000000) (hs : s ≤ 64) (hS : S.length = s) (hq : ∀ q ∈ n.fi,0 ≤ q ∧ q < (s : Int)) : ∀ d i B G,i + d = n.fi.length → B.length = s → G[p]? = some (.cells false false n.cells) → G[b]? = some (.cells false false (blz B)) →
  L.loop xNZ xY1 ⟨xN0 (.ptr p 0) (.sl false s (blz S)) (.own false b 0 s 1) (.int .i64 (i : Nat)),G⟩ =
   some (.exit 0,⟨xN0 (.ptr p 0) (.sl false s (blz S)) (.own false b 0 s 1) (.int .i64 (n.fi.length : Nat)),G.set b (.cells false false (blz (putS S ((n.fi.drop i).map Int.toNat) B)))⟩)
 | 0,i,B,G,h,hB,hp,hG => by
  obtain rfl : i = n.fi.length := by omega
  rw [List.drop_length,List.map_nil,putS,xCo hG,yAg]
  simp (maxSteps := 30000000) (disch := first | assumption | omega | (simp only [WL,AV.isCell,xAb,xAa,xAL] <;> omega) | rfl | decide) only [↓reduceIte,WB,xAW,xAd,xAV,xAm,xAl,AV.cells,AV.isCell,xAc,xAi,xAj,xAz,xAA,xAB,xAC,xAD,xAE,xAX,xAF,xAG,xAn,xAH,xAo,xAp,xAI,xAq,xAr,xAk,Nat.reduceDiv,Nat.reduceMod,WP,xAT,xAM,xBm,xBl,xBk,xAP,xAS,xAN,W2,xAe,xAf,xAh,Nat.reduceAdd,Nat.reduceSub,Nat.reduceLeDiff,Nat.reduceMul,Int.reduceAdd,Int.reduceSub,Int.reduceMul,Int.reduceLT,Int.reduceLE,Int.reduceEq,Int.reduceToNat,Int.reduceNeg,Nat.reduceEqDiff,Nat.reduceBEq,Nat.reduceLT,xAb,xAJ,xAv,xAw,lfs_at0',xAa,xAs,xAx,xAy,xAQ,xAR,xA1,xAY,xAZ,xA5,xRu,xVn,hp]
 | d + 1,i,B,G,h,hB,hp,hG => by
  have hlt : (i : Int) < (n.fi.length : Nat) := by omega
  have hm : n.fi.getD i 0 ∈ n.fi := by
   rw [List.getD_eq_getElem?_getD,List.getElem?_eq_getElem (by omega)]
   exact List.getElem_mem _
  obtain ⟨h0,h1⟩ := hq _ hm
  rw [xCw (by omega : i < n.fi.length),List.map_cons,putS]
  generalize hx : n.fi.getD i 0 = x at *
  obtain ⟨q,rfl⟩ := Int.eq_ofNat_of_zero_le h0
  have hqs : q < B.length := by omega
  have hst := xFL (x := S.getD q false) hqs
  have hbl := xAL B
  rw [hB] at hbl
  have hsl := xAL S
  rw [hS] at hsl
  have hat := xA1 (l := S) (k := q) (by omega)
  have lo := (List.getElem?_eq_some_iff.1 hG).1
  have ih := yEG (n := n) (p := p) (b := b) (s := s) (S := S) hpb hl hs hS hq d (i + 1) (B.set q (S.getD q false)) (G.set b (.cells false false (blz (B.set q (S.getD q false))))) (by omega) (by simpa using hB) (by rw [List.getElem?_set_ne (fun e => hpb e.symm)]; exact hp) (by rw [List.getElem?_set_self lo])
  rw [List.set_set,← hst] at ih
  rw [Int.toNat_natCast]
  have hqs' : q < s := by omega
  have hqI : ((q : Nat) : Int) < (s : Nat) := by omega
  generalize blz B = LB at *
  generalize blz S = LS at *
  rw [yAg]
  simp (maxSteps := 30000000) (disch := first | assumption | omega | (simp only [WL,AV.isCell,xAb,xAa,xAL] <;> omega) | rfl | decide) only [↓reduceIte,WB,xAW,xAd,xAV,xAm,xAl,AV.cells,AV.isCell,xAc,xAi,xAj,xAz,xAA,xAB,xAC,xAD,xAE,xAX,xAF,xAG,xAn,xAH,xAo,xAp,xAI,xAq,xAr,xAk,Nat.reduceDiv,Nat.reduceMod,WP,xAT,xAM,xBm,xBl,xBk,xAP,xAS,xAN,W2,xAe,xAf,xAh,Nat.reduceAdd,Nat.reduceSub,Nat.reduceLeDiff,Nat.reduceMul,Int.reduceAdd,Int.reduceSub,Int.reduceMul,Int.reduceLT,Int.reduceLE,Int.reduceEq,Int.reduceToNat,Int.reduceNeg,Nat.reduceEqDiff,Nat.reduceBEq,Nat.reduceLT,xAb,xAJ,xAv,xAw,lfs_at0',xAa,xAs,xAx,xAy,xAQ,xAR,xA1,xAY,xAZ,xA5,xRu,xVn,hp,hlt,hx,hG,hbl,hsl,hat,hqs',hqI,ih]
set_option maxHeartbeats 4000000 in
theorem xXP {n : Aut} {p b s : Nat} {s6 : AV} {S : List Bool} (hpb : p ≠ b) (hs : s ≤ 64) (hS : S.length = s) (hl : n.rl.length < 1000000) (hr : RlS s n.rl) : ∀ d i B G,i + d = n.rl.length → B.length = s → G[p]? = some (.cells false false n.cells) → G[b]? = some (.cells false false (blz B)) →
  ∃ T,L.loop xN1 xY2 ⟨xN2 (.ptr p 0) (.sl false s (blz S)) (.own false b 0 s 1) s6 (.int .i64 (i : Nat)),G⟩ =
   some (.exit 4,⟨xN2 (.ptr p 0) (.sl false s (blz S)) (.own false b 0 s 1) s6 (.int .i64 (n.rl.length : Nat)),G.set b (.cells false false (blz (xB5 (stU S) (n.rl.drop i) B))) ++ T⟩)
 | 0,i,B,G,h,hB,hp,hG => by
  obtain rfl : i = n.rl.length := by omega
  refine ⟨[],?_⟩
  rw [List.drop_length,xB5,xCo hG,List.append_nil,xN3]
  simp (maxSteps := 30000000) (disch := first | assumption | omega | (simp only [WL,AV.isCell,xAb,xAa,xAL] <;> omega) | rfl | decide) only [↓reduceIte,WB,xAW,xAd,xAV,xAm,xAl,AV.cells,AV.isCell,xAc,xAi,xAj,xAz,xAA,xAB,xAC,xAD,xAE,xAX,xAF,xAG,xAn,xAH,xAo,xAp,xAI,xAq,xAr,xAk,Nat.reduceDiv,Nat.reduceMod,WP,xAT,xAM,xBm,xBl,xBk,xAP,xAS,xAN,W2,xAe,xAf,xAh,Nat.reduceAdd,Nat.reduceSub,Nat.reduceLeDiff,Nat.reduceMul,Int.reduceAdd,Int.reduceSub,Int.reduceMul,Int.reduceLT,Int.reduceLE,Int.reduceEq,Int.reduceToNat,Int.reduceNeg,Nat.reduceEqDiff,Nat.reduceBEq,Nat.reduceLT,xAb,xAJ,xAv,xAw,lfs_at0',xAa,xAs,xAx,xAy,xAQ,xAR,xA1,xAY,xAZ,xA5,xIp,xKx,hp]
 | d + 1,i,B,G,h,hB,hp,hG => by
  have hlt : (i : Int) < (n.rl.length : Nat) := by omega
  obtain ⟨⟨l0,l1⟩,⟨q0,q1⟩,⟨t0,t1⟩,p1,n1⟩ := hr.h _ (xC0 (by omega : i < n.rl.length))
  have hat := xAs (show i < n.rl.length by omega)
  rw [xCv (by omega : i < n.rl.length),xB5]
  generalize n.rl.getD i r0 = u at *
  obtain ⟨ul,ur,ut,up,un⟩ := u
  simp only at l0 l1 q0 q1 t0 t1 p1 n1 hat
  obtain ⟨xl,rfl⟩ := Int.eq_ofNat_of_zero_le l0
  obtain ⟨xr,rfl⟩ := Int.eq_ofNat_of_zero_le q0
  obtain ⟨xt,rfl⟩ := Int.eq_ofNat_of_zero_le t0
  have la : xl < s := by omega
  have lb : xr < s := by omega
  have lc : xt < s := by omega
  have laI : ((xl : Nat) : Int) < (s : Nat) := by omega
  have lbI : ((xr : Nat) : Int) < (s : Nat) := by omega
  have lcI : ((xt : Nat) : Int) < (s : Nat) := by omega
  have lo := (List.getElem?_eq_some_iff.1 hG).1
  have hbl := xAL B
  rw [hB] at hbl
  have hg0 : ∀ y : Blk,(G ++ [y])[b]? = some (.cells false false (blz B)) := fun y => xA8 hG
  have hsl := xAL S
  rw [hS] at hsl
  have ata := xA1 (l := S) (k := xl) (by omega)
  have atb := xA1 (l := S) (k := xr) (by omega)
  have atc := xA1 (l := B) (k := xt) (by omega)
  have hsa := xFL (l := B) (k := xl) (x := true) (by omega)
  have hsb := xFL (l := B.set xl true) (k := xr) (x := true) (by simp; omega)
  have hl1 : (List.take xl (blz B) ++ (AV.bool true :: List.drop (xl + 1) (blz B))).length = s := by rw [hsa,xAL,List.length_set]; exact hB
  obtain ⟨T1,same⟩ := xXP (s6 := s6) hpb hs hS hl hr d (i + 1) B (G ++ [Blk.cells false false [.int .i64 (xl : Nat),.int .i64 (xr : Nat),.int .i64 (xt : Nat),.int .u8 (up : Nat),.int .u8 (un : Nat)]]) (by omega) hB (xA8 hp) (xA8 hG)
  obtain ⟨T2,more⟩ := xXP (s6 := s6) hpb hs hS hl hr d (i + 1) ((B.set xl true).set xr true) ((G ++ [Blk.cells false false [.int .i64 (xl : Nat),.int .i64 (xr : Nat),.int .i64 (xt : Nat),.int .u8 (up : Nat),.int .u8 (un : Nat)]]).set b (.cells false false (blz ((B.set xl true).set xr true)))) (by omega) (by simpa using hB) (by rw [List.getElem?_set_ne (fun h => hpb h.symm)]; exact xA8 hp) (by rw [List.getElem?_set_self (by simp; omega)])
  rw [xDJ hG,List.append_assoc] at same
  rw [List.set_set,xDJ hG,xDJ hG,List.append_assoc,← hsb,← hsa] at more
  have hg1 : ∀ (x y : Blk),(G.set b x ++ [y])[b]? = some x := fun x y => xA8 (by rw [List.getElem?_set_self lo])
  have hg2 : ∀ (x y : Blk),(G.set b x ++ [y])[G.length]? = some y := fun x y => by rw [List.getElem?_append_right (by simp),List.length_set,Nat.sub_self]; rfl
  have hg3 : ∀ (x x' y : Blk),(G.set b x ++ [y]).set b x' = G.set b x' ++ [y] := fun x x' y => by rw [List.set_append_left _ _ (by simpa using lo),List.set_set]
  by_cases c3 : B.getD xt false = true
  ·rw [c3] at atc
   by_cases c1 : S.getD xl false = true
   ·rw [c1] at ata
    by_cases c2 : S.getD xr false = true
    ·rw [c2] at atb
     refine ⟨Blk.cells false false [.int .i64 (xl : Nat),.int .i64 (xr : Nat),.int .i64 (xt : Nat),.int .u8 (up : Nat),.int .u8 (un : Nat)] :: T2,?_⟩
     rw [stU,if_pos ⟨by simpa using c3,by simpa using c1,by simpa using c2⟩]
     simp only [Int.toNat_natCast]
     clear same hsa hsb
     generalize blz B = LB at *
     generalize blz S = LS at *
     rw [xN3]
     simp (maxSteps := 30000000) (disch := first | assumption | omega | (simp only [WL,AV.isCell,xAb,xAa,xAL] <;> omega) | rfl | decide) only [↓reduceIte,WB,xAW,xAd,xAV,xAm,xAl,AV.cells,AV.isCell,xAc,xAi,xAj,xAz,xAA,xAB,xAC,xAD,xAE,xAX,xAF,xAG,xAn,xAH,xAo,xAp,xAI,xAq,xAr,xAk,Nat.reduceDiv,Nat.reduceMod,WP,xAT,xAM,xBm,xBl,xBk,xAP,xAS,xAN,W2,xAe,xAf,xAh,Nat.reduceAdd,Nat.reduceSub,Nat.reduceLeDiff,Nat.reduceMul,Int.reduceAdd,Int.reduceSub,Int.reduceMul,Int.reduceLT,Int.reduceLE,Int.reduceEq,Int.reduceToNat,Int.reduceNeg,Nat.reduceEqDiff,Nat.reduceBEq,Nat.reduceLT,xAb,xAJ,xAv,xAw,lfs_at0',xAa,xAs,xAx,xAy,xAQ,xAR,xA1,xAY,xAZ,xA5,xIp,xKx,hp,hlt,hat,hg0,hg1,hg2,hg3,hG,hbl,hsl,hl1,la,laI,lb,lbI,lc,lcI,ata,atb,atc,List.set_set,xDJ hG,more]
    ·have c2' : S.getD xr false = false := by simpa using c2
     rw [c2'] at atb
     refine ⟨Blk.cells false false [.int .i64 (xl : Nat),.int .i64 (xr : Nat),.int .i64 (xt : Nat),.int .u8 (up : Nat),.int .u8 (un : Nat)] :: T1,?_⟩
     rw [stU,if_neg (fun h => c2 (by simpa using h.2.2))]
     clear more hsa hsb
     generalize blz B = LB at *
     generalize blz S = LS at *
     rw [xN3]
     simp (maxSteps := 30000000) (disch := first | assumption | omega | (simp only [WL,AV.isCell,xAb,xAa,xAL] <;> omega) | rfl | decide) only [↓reduceIte,WB,xAW,xAd,xAV,xAm,xAl,AV.cells,AV.isCell,xAc,xAi,xAj,xAz,xAA,xAB,xAC,xAD,xAE,xAX,xAF,xAG,xAn,xAH,xAo,xAp,xAI,xAq,xAr,xAk,Nat.reduceDiv,Nat.reduceMod,WP,xAT,xAM,xBm,xBl,xBk,xAP,xAS,xAN,W2,xAe,xAf,xAh,Nat.reduceAdd,Nat.reduceSub,Nat.reduceLeDiff,Nat.reduceMul,Int.reduceAdd,Int.reduceSub,Int.reduceMul,Int.reduceLT,Int.reduceLE,Int.reduceEq,Int.reduceToNat,Int.reduceNeg,Nat.reduceEqDiff,Nat.reduceBEq,Nat.reduceLT,xAb,xAJ,xAv,xAw,lfs_at0',xAa,xAs,xAx,xAy,xAQ,xAR,xA1,xAY,xAZ,xA5,xIp,xKx,hp,hlt,hat,hg0,hG,hbl,hsl,la,laI,lb,lbI,lc,lcI,ata,atb,atc,same]
   ·have c1' : S.getD xl false = false := by simpa using c1
    rw [c1'] at ata
    refine ⟨Blk.cells false false [.int .i64 (xl : Nat),.int .i64 (xr : Nat),.int .i64 (xt : Nat),.int .u8 (up : Nat),.int .u8 (un : Nat)] :: T1,?_⟩
    rw [stU,if_neg (fun h => c1 (by simpa using h.2.1))]
    clear more hsa hsb
    generalize blz B = LB at *
    generalize blz S = LS at *
    rw [xN3]
    simp (maxSteps := 30000000) (disch := first | assumption | omega | (simp only [WL,AV.isCell,xAb,xAa,xAL] <;> omega) | rfl | decide) only [↓reduceIte,WB,xAW,xAd,xAV,xAm,xAl,AV.cells,AV.isCell,xAc,xAi,xAj,xAz,xAA,xAB,xAC,xAD,xAE,xAX,xAF,xAG,xAn,xAH,xAo,xAp,xAI,xAq,xAr,xAk,Nat.reduceDiv,Nat.reduceMod,WP,xAT,xAM,xBm,xBl,xBk,xAP,xAS,xAN,W2,xAe,xAf,xAh,Nat.reduceAdd,Nat.reduceSub,Nat.reduceLeDiff,Nat.reduceMul,Int.reduceAdd,Int.reduceSub,Int.reduceMul,Int.reduceLT,Int.reduceLE,Int.reduceEq,Int.reduceToNat,Int.reduceNeg,Nat.reduceEqDiff,Nat.reduceBEq,Nat.reduceLT,xAb,xAJ,xAv,xAw,lfs_at0',xAa,xAs,xAx,xAy,xAQ,xAR,xA1,xAY,xAZ,xA5,xIp,xKx,hp,hlt,hat,hg0,hG,hbl,hsl,la,laI,lb,lbI,lc,lcI,ata,atc,same]
  ·have c3' : B.getD xt false = false := by simpa using c3
   rw [c3'] at atc
   refine ⟨Blk.cells false false [.int .i64 (xl : Nat),.int .i64 (xr : Nat),.int .i64 (xt : Nat),.int .u8 (up : Nat),.int .u8 (un : Nat)] :: T1,?_⟩
   rw [stU,if_neg (fun h => c3 (by simpa using h.1))]
   clear more hsa hsb
   generalize blz B = LB at *
   generalize blz S = LS at *
   rw [xN3]
   simp (maxSteps := 30000000) (disch := first | assumption | omega | (simp only [WL,AV.isCell,xAb,xAa,xAL] <;> omega) | rfl | decide) only [↓reduceIte,WB,xAW,xAd,xAV,xAm,xAl,AV.cells,AV.isCell,xAc,xAi,xAj,xAz,xAA,xAB,xAC,xAD,xAE,xAX,xAF,xAG,xAn,xAH,xAo,xAp,xAI,xAq,xAr,xAk,Nat.reduceDiv,Nat.reduceMod,WP,xAT,xAM,xBm,xBl,xBk,xAP,xAS,xAN,W2,xAe,xAf,xAh,Nat.reduceAdd,Nat.reduceSub,Nat.reduceLeDiff,Nat.reduceMul,Int.reduceAdd,Int.reduceSub,Int.reduceMul,Int.reduceLT,Int.reduceLE,Int.reduceEq,Int.reduceToNat,Int.reduceNeg,Nat.reduceEqDiff,Nat.reduceBEq,Nat.reduceLT,xAb,xAJ,xAv,xAw,lfs_at0',xAa,xAs,xAx,xAy,xAQ,xAR,xA1,xAY,xAZ,xA5,xIp,xKx,hp,hlt,hat,hg0,hG,hbl,hsl,la,laI,lb,lbI,lc,lcI,atc,same]
theorem xTc {n : Aut} {p b s : Nat} {S : List Bool} (hn : n.states = (s : Nat)) (hpb : p ≠ b) (hs : s ≤ 64) (hl : n.rl.length < 1000000) (hr : RlS s n.rl) (hS : S.length = s) : ∀ d i B G,i + d = s → B.length = s → G[p]? = some (.cells false false n.cells) → G[b]? = some (.cells false false (blz B)) →
  ∃ T,L.loop xN4 xY3 ⟨xN5 (.ptr p 0) (.sl false s (blz S)) (.own false b 0 s 1) (.int .i64 (i : Nat)),G⟩ =
   some (.exit 2,⟨xN5 (.ptr p 0) (.sl false s (blz S)) (.own false b 0 s 1) (.int .i64 (s : Nat)),G.set b (.cells false false (blz (xD9 (stU S) n.rl d B))) ++ T⟩)
 | 0,i,B,G,h,hB,hp,hG => by
  obtain rfl : i = s := by omega
  refine ⟨[],?_⟩
  rw [xD9,xCo hG,List.append_nil,yAh]
  simp (maxSteps := 30000000) (disch := first | assumption | omega | (simp only [WL,AV.isCell,xAb,xAa,xAL] <;> omega) | rfl | decide) only [↓reduceIte,WB,xAW,xAd,xAV,xAm,xAl,AV.cells,AV.isCell,xAc,xAi,xAj,xAz,xAA,xAB,xAC,xAD,xAE,xAX,xAF,xAG,xAn,xAH,xAo,xAp,xAI,xAq,xAr,xAk,Nat.reduceDiv,Nat.reduceMod,WP,xAT,xAM,xBm,xBl,xBk,xAP,xAS,xAN,W2,xAe,xAf,xAh,Nat.reduceAdd,Nat.reduceSub,Nat.reduceLeDiff,Nat.reduceMul,Int.reduceAdd,Int.reduceSub,Int.reduceMul,Int.reduceLT,Int.reduceLE,Int.reduceEq,Int.reduceToNat,Int.reduceNeg,Nat.reduceEqDiff,Nat.reduceBEq,Nat.reduceLT,xAb,xAJ,xAv,xAw,lfs_at0',xAa,xAs,xAx,xAy,xAQ,xAR,xA1,xAY,xAZ,xA5,xRv,xVo,hp,hn]
 | d + 1,i,B,G,h,hB,hp,hG => by
  have hlt : (i : Int) < (s : Nat) := by omega
  have lo := (List.getElem?_eq_some_iff.1 hG).1
  obtain ⟨T1,h1⟩ := xXP (s6 := .int .i64 (i : Nat)) hpb hs hS hl hr n.rl.length 0 B G (by omega) hB hp hG
  simp only [Int.natCast_zero,List.drop_zero] at h1
  obtain ⟨T2,h2⟩ := xTc hn hpb hs hl hr hS d (i + 1) (xB5 (stU S) n.rl B) (G.set b (.cells false false (blz (xB5 (stU S) n.rl B))) ++ T1) (by omega) (by rw [xXM]; exact hB) (xA8 (by rw [List.getElem?_set_ne (fun h => hpb h.symm)]; exact hp)) (xA8 (by rw [List.getElem?_set_self lo]))
  rw [xDJ (x := .cells false false (blz (xB5 (stU S) n.rl B))) (by rw [List.getElem?_set_self lo]),List.set_set,List.append_assoc] at h2
  refine ⟨T1 ++ T2,?_⟩
  rw [xD9,yAh]
  simp (maxSteps := 30000000) (disch := first | assumption | omega | (simp only [WL,AV.isCell,xAb,xAa,xAL] <;> omega) | rfl | decide) only [↓reduceIte,WB,xAW,xAd,xAV,xAm,xAl,AV.cells,AV.isCell,xAc,xAi,xAj,xAz,xAA,xAB,xAC,xAD,xAE,xAX,xAF,xAG,xAn,xAH,xAo,xAp,xAI,xAq,xAr,xAk,Nat.reduceDiv,Nat.reduceMod,WP,xAT,xAM,xBm,xBl,xBk,xAP,xAS,xAN,W2,xAe,xAf,xAh,Nat.reduceAdd,Nat.reduceSub,Nat.reduceLeDiff,Nat.reduceMul,Int.reduceAdd,Int.reduceSub,Int.reduceMul,Int.reduceLT,Int.reduceLE,Int.reduceEq,Int.reduceToNat,Int.reduceNeg,Nat.reduceEqDiff,Nat.reduceBEq,Nat.reduceLT,xAb,xAJ,xAv,xAw,lfs_at0',xAa,xAs,xAx,xAy,xAQ,xAR,xA1,xAY,xAZ,xA5,xRv,xVo,hp,hn,hlt,xKx,h1,h2]
theorem xZO (n : Aut) {s : Nat} (hn : n.states = (s : Nat)) (hs : s ≤ 64) (h1 : n.st.length < 1000000) (h2 : n.fi.length < 1000000) (hl : n.rl.length < 1000000) (hq : ∀ q ∈ n.st,0 ≤ q ∧ q < (s : Int)) (hf : ∀ q ∈ n.fi,0 ≤ q ∧ q < (s : Int)) (hr : RlS s n.rl) : L.pcall 59 [n.av] = some (.sl false s (blz (xUh s n (xDR s n)))) := by
 have h85 := xXV n hn hs
 have h56 := xXO n hn hs h1 hl hq hr
 have hlT := xHE s n
 have hp := yEG (n := n) (p := 0) (b := 1) (S := xDR s n) (by decide) h2 hs hlT hf n.fi.length 0 (List.replicate s false) [.cells false false n.cells,.cells false false (blz (List.replicate s false))] (by omega) (by simp) rfl rfl
 obtain ⟨T,hr⟩ := xTc (n := n) (p := 0) (b := 1) (S := xDR s n) hn (by decide) hs hl hr hlT s 0 (putS (xDR s n) (n.fi.map Int.toNat) (List.replicate s false)) [.cells false false n.cells,.cells false false (blz (putS (xDR s n) (n.fi.map Int.toNat) (List.replicate s false)))] (by omega) (by rw [xHF,List.length_replicate]) rfl rfl
 simp only [Int.natCast_zero,List.drop_zero] at hp hr
 have hlen := xMB s n (xDR s n)
 have ht := xHD (xUh s n (xDR s n))
 have hbl := xAL (xUh s n (xDR s n))
 have hfz := fun d H => xAY d H (xUh s n (xDR s n))
 rw [hlen] at ht hbl
 have e : xD9 (stU (xDR s n)) n.rl s (putS (xDR s n) (n.fi.map Int.toNat) (List.replicate s false)) = xUh s n (xDR s n) := rfl
 rw [e] at hr
 generalize blz (xUh s n (xDR s n)) = LB at *
 generalize blz (putS (xDR s n) (n.fi.map Int.toNat) (List.replicate s false)) = LC at *
 generalize blz (xDR s n) = LS at *
 rw [yG9,a59,xAu]
 simp (maxSteps := 30000000) (disch := first | assumption | omega | (simp only [WL,AV.isCell,xAb,xAa,xAL] <;> omega) | rfl | decide) only [↓reduceIte,WB,xAW,xAd,xAV,xAm,xAl,AV.cells,AV.isCell,xAc,xAi,xAj,xAz,xAA,xAB,xAC,xAD,xAE,xAX,xAF,xAG,xAn,xAH,xAo,xAp,xAI,xAq,xAr,xAk,Nat.reduceDiv,Nat.reduceMod,WP,xAT,xAM,xBm,xBl,xBk,xAP,xAS,xAN,W2,xAe,xAf,xAh,Nat.reduceAdd,Nat.reduceSub,Nat.reduceLeDiff,Nat.reduceMul,Int.reduceAdd,Int.reduceSub,Int.reduceMul,Int.reduceLT,Int.reduceLE,Int.reduceEq,Int.reduceToNat,Int.reduceNeg,Nat.reduceEqDiff,Nat.reduceBEq,Nat.reduceLT,xAb,xAJ,xAv,xAw,lfs_at0',xAa,xAs,xAx,xAy,xAQ,xAR,xA1,xAY,xAZ,xA5,h85,h56,xVn,hp,xVo,hr,ht,hbl,hfz]
section
variable {n : Aut} {z : Bool} {t : List Lf} {s : Nat}
theorem yEH (hn : n.states = (s : Nat)) (hs : s ≤ 64) (h1 : n.st.length < 1000000) (hl : n.rl.length < 1000000) (hq : ∀ q ∈ n.st,0 ≤ q ∧ q < (s : Int)) (hr : RlS s n.rl) (htl : t.length < 1000000) (hx : ∀ e ∈ t,e.x < 256) {T : BT} (hF : Formed t T) :
  ∃ (c : Int) (K : List Bool),L.pcall 53 [tw z t] = some (.int .i64 c) ∧ L.pcall 52 [n.av,tw z t,.int .i64 c] = some (.sl false s (blz K)) ∧ K.length = s ∧ ∀ j,K.getD j false = (ev (xCW 0 n.st) n.rl T).testBit j := by
 have h53 := yEJ z t (by omega)
 rcases hF with ⟨rfl,rfl⟩ | ⟨h31,hS⟩
 ·obtain ⟨K,k1,k2,k3⟩ := xTf (z := z) hn hs h1 hl hq hr htl hx (Sub.none (t := []) 0)
  exact ⟨-1,K,h53,k1,k2,k3⟩
 ·have h0 : ¬ t.length = 0 := by
   intro h0
   cases hS with
   | some hm _ _ => omega
  rw [if_neg h0] at h53
  obtain ⟨K,k1,k2,k3⟩ := xTf (z := z) hn hs h1 hl hq hr htl hx hS
  exact ⟨0,K,h53,k1,k2,k3⟩
theorem xXQ {e : Int} (he : e ≠ 0) (h15 : L.pcall 15 [n.av] = some (.int .i64 e)) : L.pcall 17 [n.av,tw z t] = some (.tup [.sl true 0 [],.int .i64 e]) := by
 rw [yFj,a17,xAu]
 simp (maxSteps := 30000000) (disch := first | assumption | omega | (simp only [WL,AV.isCell,xAb,xAa,xAL] <;> omega) | rfl | decide) only [↓reduceIte,WB,xAW,xAd,xAV,xAm,xAl,AV.cells,AV.isCell,xAc,xAi,xAj,xAz,xAA,xAB,xAC,xAD,xAE,xAX,xAF,xAG,xAn,xAH,xAo,xAp,xAI,xAq,xAr,xAk,Nat.reduceDiv,Nat.reduceMod,WP,xAT,xAM,xBm,xBl,xBk,xAP,xAS,xAN,W2,xAe,xAf,xAh,Nat.reduceAdd,Nat.reduceSub,Nat.reduceLeDiff,Nat.reduceMul,Int.reduceAdd,Int.reduceSub,Int.reduceMul,Int.reduceLT,Int.reduceLE,Int.reduceEq,Int.reduceToNat,Int.reduceNeg,Nat.reduceEqDiff,Nat.reduceBEq,Nat.reduceLT,xAb,xAa,xAs,xA1,xAY,xAZ,h15,he]
theorem xXR {e : Int} (he : e ≠ 0) (h15 : L.pcall 15 [n.av] = some (.int .i64 0)) (h50 : L.pcall 50 [tw z t,.int .i64 n.vars] = some (.int .i64 e)) : L.pcall 17 [n.av,tw z t] = some (.tup [.sl true 0 [],.int .i64 e]) := by
 rw [yFj,a17,xAu]
 simp (maxSteps := 30000000) (disch := first | assumption | omega | (simp only [WL,AV.isCell,xAb,xAa,xAL] <;> omega) | rfl | decide) only [↓reduceIte,WB,xAW,xAd,xAV,xAm,xAl,AV.cells,AV.isCell,xAc,xAi,xAj,xAz,xAA,xAB,xAC,xAD,xAE,xAX,xAF,xAG,xAn,xAH,xAo,xAp,xAI,xAq,xAr,xAk,Nat.reduceDiv,Nat.reduceMod,WP,xAT,xAM,xBm,xBl,xBk,xAP,xAS,xAN,W2,xAe,xAf,xAh,Nat.reduceAdd,Nat.reduceSub,Nat.reduceLeDiff,Nat.reduceMul,Int.reduceAdd,Int.reduceSub,Int.reduceMul,Int.reduceLT,Int.reduceLE,Int.reduceEq,Int.reduceToNat,Int.reduceNeg,Nat.reduceEqDiff,Nat.reduceBEq,Nat.reduceLT,xAb,xAa,xAs,xA1,xAY,xAZ,h15,h50,he]
theorem yC4 {c : Int} {LK : List AV} {zz : Bool} {r : List Nat} (h15 : L.pcall 15 [n.av] = some (.int .i64 0)) (h50 : L.pcall 50 [tw z t,.int .i64 n.vars] = some (.int .i64 0)) (h53 : L.pcall 53 [tw z t] = some (.int .i64 c)) (h52 : L.pcall 52 [n.av,tw z t,.int .i64 c] = some (.sl false s LK)) (h51 : L.pcall 51 [.sl false s LK] = some (sw zz r)) :
  L.pcall 17 [n.av,tw z t] = some (.tup [sw zz r,.int .i64 0]) := by
 rw [yFj,a17,xAu]
 simp (maxSteps := 30000000) (disch := first | assumption | omega | (simp only [WL,AV.isCell,xAb,xAa,xAL] <;> omega) | rfl | decide) only [↓reduceIte,WB,xAW,xAd,xAV,xAm,xAl,AV.cells,AV.isCell,xAc,xAi,xAj,xAz,xAA,xAB,xAC,xAD,xAE,xAX,xAF,xAG,xAn,xAH,xAo,xAp,xAI,xAq,xAr,xAk,Nat.reduceDiv,Nat.reduceMod,WP,xAT,xAM,xBm,xBl,xBk,xAP,xAS,xAN,W2,xAe,xAf,xAh,Nat.reduceAdd,Nat.reduceSub,Nat.reduceLeDiff,Nat.reduceMul,Int.reduceAdd,Int.reduceSub,Int.reduceMul,Int.reduceLT,Int.reduceLE,Int.reduceEq,Int.reduceToNat,Int.reduceNeg,Nat.reduceEqDiff,Nat.reduceBEq,Nat.reduceLT,xAb,xAa,xAs,xA1,xAY,xAZ,h15,h50,h53,h52,h51]
theorem xZP {e : Int} (he : e ≠ 0) (h15 : L.pcall 15 [n.av] = some (.int .i64 e)) : L.pcall 21 [n.av] = some (.tup [.sl true 0 [],.int .i64 e]) := by
 rw [yFT,a21,xAu]
 simp (maxSteps := 30000000) (disch := first | assumption | omega | (simp only [WL,AV.isCell,xAb,xAa,xAL] <;> omega) | rfl | decide) only [↓reduceIte,WB,xAW,xAd,xAV,xAm,xAl,AV.cells,AV.isCell,xAc,xAi,xAj,xAz,xAA,xAB,xAC,xAD,xAE,xAX,xAF,xAG,xAn,xAH,xAo,xAp,xAI,xAq,xAr,xAk,Nat.reduceDiv,Nat.reduceMod,WP,xAT,xAM,xBm,xBl,xBk,xAP,xAS,xAN,W2,xAe,xAf,xAh,Nat.reduceAdd,Nat.reduceSub,Nat.reduceLeDiff,Nat.reduceMul,Int.reduceAdd,Int.reduceSub,Int.reduceMul,Int.reduceLT,Int.reduceLE,Int.reduceEq,Int.reduceToNat,Int.reduceNeg,Nat.reduceEqDiff,Nat.reduceBEq,Nat.reduceLT,xAb,xAa,xAs,xA1,xAY,xAZ,h15,he]
theorem yC5 {LK : List AV} {zz : Bool} {r : List Nat} (h15 : L.pcall 15 [n.av] = some (.int .i64 0)) (h56 : L.pcall 56 [n.av] = some (.sl false s LK)) (h51 : L.pcall 51 [.sl false s LK] = some (sw zz r)) :
  L.pcall 21 [n.av] = some (.tup [sw zz r,.int .i64 0]) := by
 rw [yFT,a21,xAu]
 simp (maxSteps := 30000000) (disch := first | assumption | omega | (simp only [WL,AV.isCell,xAb,xAa,xAL] <;> omega) | rfl | decide) only [↓reduceIte,WB,xAW,xAd,xAV,xAm,xAl,AV.cells,AV.isCell,xAc,xAi,xAj,xAz,xAA,xAB,xAC,xAD,xAE,xAX,xAF,xAG,xAn,xAH,xAo,xAp,xAI,xAq,xAr,xAk,Nat.reduceDiv,Nat.reduceMod,WP,xAT,xAM,xBm,xBl,xBk,xAP,xAS,xAN,W2,xAe,xAf,xAh,Nat.reduceAdd,Nat.reduceSub,Nat.reduceLeDiff,Nat.reduceMul,Int.reduceAdd,Int.reduceSub,Int.reduceMul,Int.reduceLT,Int.reduceLE,Int.reduceEq,Int.reduceToNat,Int.reduceNeg,Nat.reduceEqDiff,Nat.reduceBEq,Nat.reduceLT,xAb,xAa,xAs,xA1,xAY,xAZ,h15,h56,h51]
theorem xXS {e : Int} (he : e ≠ 0) (h15 : L.pcall 15 [n.av] = some (.int .i64 e)) : L.pcall 19 [n.av,tw z t] = some (.tup [.bool false,.int .i64 e]) := by
 rw [yEV,a19,xAu]
 simp (maxSteps := 30000000) (disch := first | assumption | omega | (simp only [WL,AV.isCell,xAb,xAa,xAL] <;> omega) | rfl | decide) only [↓reduceIte,WB,xAW,xAd,xAV,xAm,xAl,AV.cells,AV.isCell,xAc,xAi,xAj,xAz,xAA,xAB,xAC,xAD,xAE,xAX,xAF,xAG,xAn,xAH,xAo,xAp,xAI,xAq,xAr,xAk,Nat.reduceDiv,Nat.reduceMod,WP,xAT,xAM,xBm,xBl,xBk,xAP,xAS,xAN,W2,xAe,xAf,xAh,Nat.reduceAdd,Nat.reduceSub,Nat.reduceLeDiff,Nat.reduceMul,Int.reduceAdd,Int.reduceSub,Int.reduceMul,Int.reduceLT,Int.reduceLE,Int.reduceEq,Int.reduceToNat,Int.reduceNeg,Nat.reduceEqDiff,Nat.reduceBEq,Nat.reduceLT,xAb,xAa,xAs,xA1,xAY,xAZ,h15,he]
theorem xXT {e : Int} (he : e ≠ 0) (h15 : L.pcall 15 [n.av] = some (.int .i64 0)) (h50 : L.pcall 50 [tw z t,.int .i64 n.vars] = some (.int .i64 e)) : L.pcall 19 [n.av,tw z t] = some (.tup [.bool false,.int .i64 e]) := by
 rw [yEV,a19,xAu]
 simp (maxSteps := 30000000) (disch := first | assumption | omega | (simp only [WL,AV.isCell,xAb,xAa,xAL] <;> omega) | rfl | decide) only [↓reduceIte,WB,xAW,xAd,xAV,xAm,xAl,AV.cells,AV.isCell,xAc,xAi,xAj,xAz,xAA,xAB,xAC,xAD,xAE,xAX,xAF,xAG,xAn,xAH,xAo,xAp,xAI,xAq,xAr,xAk,Nat.reduceDiv,Nat.reduceMod,WP,xAT,xAM,xBm,xBl,xBk,xAP,xAS,xAN,W2,xAe,xAf,xAh,Nat.reduceAdd,Nat.reduceSub,Nat.reduceLeDiff,Nat.reduceMul,Int.reduceAdd,Int.reduceSub,Int.reduceMul,Int.reduceLT,Int.reduceLE,Int.reduceEq,Int.reduceToNat,Int.reduceNeg,Nat.reduceEqDiff,Nat.reduceBEq,Nat.reduceLT,xAb,xAa,xAs,xA1,xAY,xAZ,h15,h50,he]
theorem xPW {K : List Bool} {s4 s5 : AV} {p : Nat} {H : Heap} (hl : n.fi.length < 1000000) (hs : s ≤ 64) (hK : K.length = s) (hq : ∀ q ∈ n.fi,0 ≤ q ∧ q < (s : Int)) (hp : H[p]? = some (.cells false false n.cells)) : ∀ d i,i + d = n.fi.length →
  ∃ i' : Nat,L.loop xNe xYG ⟨xKi (.ptr p 0) s4 s5 (.sl false s (blz K)) (.int .i64 (i : Nat)),H⟩ =
   some (if (n.fi.drop i).any (fun q => K.getD q.toNat false) = true then (.ret,⟨xKi (.ptr p 0) (.bool true) (.int .i64 0) (.sl false s (blz K)) (.int .i64 (i' : Nat)),H⟩) else (.exit 0,⟨xKi (.ptr p 0) s4 s5 (.sl false s (blz K)) (.int .i64 (n.fi.length : Nat)),H⟩))
 | 0,i,h => by
  obtain rfl : i = n.fi.length := by omega
  refine ⟨0,?_⟩
  rw [if_neg (by simp),xRf]
  simp (maxSteps := 30000000) (disch := first | assumption | omega | (simp only [WL,AV.isCell,xAb,xAa,xAL] <;> omega) | rfl | decide) only [↓reduceIte,WB,xAW,xAd,xAV,xAm,xAl,AV.cells,AV.isCell,xAc,xAi,xAj,xAz,xAA,xAB,xAC,xAD,xAE,xAX,xAF,xAG,xAn,xAH,xAo,xAp,xAI,xAq,xAr,xAk,Nat.reduceDiv,Nat.reduceMod,WP,xAT,xAM,xBm,xBl,xBk,xAP,xAS,xAN,W2,xAe,xAf,xAh,Nat.reduceAdd,Nat.reduceSub,Nat.reduceLeDiff,Nat.reduceMul,Int.reduceAdd,Int.reduceSub,Int.reduceMul,Int.reduceLT,Int.reduceLE,Int.reduceEq,Int.reduceToNat,Int.reduceNeg,Nat.reduceEqDiff,Nat.reduceBEq,Nat.reduceLT,xAb,xAa,xAs,xA1,xAY,xAZ,xKh,xKj,hp]
 | d + 1,i,h => by
  have hlt : (i : Int) < (n.fi.length : Nat) := by omega
  have hm : n.fi.getD i 0 ∈ n.fi := by
   rw [List.getD_eq_getElem?_getD,List.getElem?_eq_getElem (by omega)]
   exact List.getElem_mem _
  obtain ⟨h0,h1⟩ := hq _ hm
  rw [xCw (by omega : i < n.fi.length),List.any_cons]
  generalize hx : n.fi.getD i 0 = x at *
  obtain ⟨q,rfl⟩ := Int.eq_ofNat_of_zero_le h0
  have hqs' : q < s := by omega
  have hqI : ((q : Nat) : Int) < (s : Nat) := by omega
  have hkl := xAL K
  rw [hK] at hkl
  have hat := xA1 (l := K) (k := q) (by omega)
  rw [Int.toNat_natCast]
  cases c : K.getD q false with
  | true =>
   rw [c] at hat
   refine ⟨i,?_⟩
   rw [Bool.true_or,if_pos rfl]
   generalize blz K = LK at *
   rw [xRf]
   simp (maxSteps := 30000000) (disch := first | assumption | omega | (simp only [WL,AV.isCell,xAb,xAa,xAL] <;> omega) | rfl | decide) only [↓reduceIte,WB,xAW,xAd,xAV,xAm,xAl,AV.cells,AV.isCell,xAc,xAi,xAj,xAz,xAA,xAB,xAC,xAD,xAE,xAX,xAF,xAG,xAn,xAH,xAo,xAp,xAI,xAq,xAr,xAk,Nat.reduceDiv,Nat.reduceMod,WP,xAT,xAM,xBm,xBl,xBk,xAP,xAS,xAN,W2,xAe,xAf,xAh,Nat.reduceAdd,Nat.reduceSub,Nat.reduceLeDiff,Nat.reduceMul,Int.reduceAdd,Int.reduceSub,Int.reduceMul,Int.reduceLT,Int.reduceLE,Int.reduceEq,Int.reduceToNat,Int.reduceNeg,Nat.reduceEqDiff,Nat.reduceBEq,Nat.reduceLT,xAb,xAa,xAs,xA1,xAY,xAZ,xKh,xKj,hp,hlt,hx,hkl,hqs',hqI,hat]
  | false =>
   rw [c] at hat
   obtain ⟨i',ih⟩ := xPW (s4 := s4) (s5 := s5) hl hs hK hq hp d (i + 1) (by omega)
   refine ⟨i',?_⟩
   rw [Bool.false_or]
   by_cases e2 : (n.fi.drop (i + 1)).any (fun q => K.getD q.toNat false) = true
   ·rw [if_pos e2] at ih ⊢
    generalize blz K = LK at *
    rw [xRf]
    simp (maxSteps := 30000000) (disch := first | assumption | omega | (simp only [WL,AV.isCell,xAb,xAa,xAL] <;> omega) | rfl | decide) only [↓reduceIte,WB,xAW,xAd,xAV,xAm,xAl,AV.cells,AV.isCell,xAc,xAi,xAj,xAz,xAA,xAB,xAC,xAD,xAE,xAX,xAF,xAG,xAn,xAH,xAo,xAp,xAI,xAq,xAr,xAk,Nat.reduceDiv,Nat.reduceMod,WP,xAT,xAM,xBm,xBl,xBk,xAP,xAS,xAN,W2,xAe,xAf,xAh,Nat.reduceAdd,Nat.reduceSub,Nat.reduceLeDiff,Nat.reduceMul,Int.reduceAdd,Int.reduceSub,Int.reduceMul,Int.reduceLT,Int.reduceLE,Int.reduceEq,Int.reduceToNat,Int.reduceNeg,Nat.reduceEqDiff,Nat.reduceBEq,Nat.reduceLT,xAb,xAa,xAs,xA1,xAY,xAZ,xKh,xKj,hp,hlt,hx,hkl,hqs',hqI,hat,ih]
   ·rw [if_neg e2] at ih ⊢
    generalize blz K = LK at *
    rw [xRf]
    simp (maxSteps := 30000000) (disch := first | assumption | omega | (simp only [WL,AV.isCell,xAb,xAa,xAL] <;> omega) | rfl | decide) only [↓reduceIte,WB,xAW,xAd,xAV,xAm,xAl,AV.cells,AV.isCell,xAc,xAi,xAj,xAz,xAA,xAB,xAC,xAD,xAE,xAX,xAF,xAG,xAn,xAH,xAo,xAp,xAI,xAq,xAr,xAk,Nat.reduceDiv,Nat.reduceMod,WP,xAT,xAM,xBm,xBl,xBk,xAP,xAS,xAN,W2,xAe,xAf,xAh,Nat.reduceAdd,Nat.reduceSub,Nat.reduceLeDiff,Nat.reduceMul,Int.reduceAdd,Int.reduceSub,Int.reduceMul,Int.reduceLT,Int.reduceLE,Int.reduceEq,Int.reduceToNat,Int.reduceNeg,Nat.reduceEqDiff,Nat.reduceBEq,Nat.reduceLT,xAb,xAa,xAs,xA1,xAY,xAZ,xKh,xKj,hp,hlt,hx,hkl,hqs',hqI,hat,ih]
theorem yC6 {c : Int} {K : List Bool} (hl : n.fi.length < 1000000) (hs : s ≤ 64) (hK : K.length = s) (hq : ∀ q ∈ n.fi,0 ≤ q ∧ q < (s : Int)) (h15 : L.pcall 15 [n.av] = some (.int .i64 0)) (h50 : L.pcall 50 [tw z t,.int .i64 n.vars] = some (.int .i64 0)) (h53 : L.pcall 53 [tw z t] = some (.int .i64 c)) (h52 : L.pcall 52 [n.av,tw z t,.int .i64 c] = some (.sl false s (blz K))) :
  L.pcall 19 [n.av,tw z t] = some (.tup [.bool (n.fi.any fun q => K.getD q.toNat false),.int .i64 0]) := by
 obtain ⟨i',hlp⟩ := xPW (n := n) (s := s) (K := K) (s4 := .bool false) (s5 := .int .i64 0) (p := 0) (H := [.cells false false n.cells]) hl hs hK hq rfl n.fi.length 0 (by omega)
 simp only [Int.natCast_zero,List.drop_zero] at hlp
 cases e2 : n.fi.any fun q => K.getD q.toNat false with
 | true =>
  rw [if_pos e2] at hlp
  rw [yEV,a19,xAu]
  simp (maxSteps := 30000000) (disch := first | assumption | omega | (simp only [WL,AV.isCell,xAb,xAa,xAL] <;> omega) | rfl | decide) only [↓reduceIte,WB,xAW,xAd,xAV,xAm,xAl,AV.cells,AV.isCell,xAc,xAi,xAj,xAz,xAA,xAB,xAC,xAD,xAE,xAX,xAF,xAG,xAn,xAH,xAo,xAp,xAI,xAq,xAr,xAk,Nat.reduceDiv,Nat.reduceMod,WP,xAT,xAM,xBm,xBl,xBk,xAP,xAS,xAN,W2,xAe,xAf,xAh,Nat.reduceAdd,Nat.reduceSub,Nat.reduceLeDiff,Nat.reduceMul,Int.reduceAdd,Int.reduceSub,Int.reduceMul,Int.reduceLT,Int.reduceLE,Int.reduceEq,Int.reduceToNat,Int.reduceNeg,Nat.reduceEqDiff,Nat.reduceBEq,Nat.reduceLT,xAb,xAa,xAs,xA1,xAY,xAZ,h15,h50,h53,h52,xKj,hlp]
 | false =>
  rw [if_neg (by rw [e2]; simp)] at hlp
  rw [yEV,a19,xAu]
  simp (maxSteps := 30000000) (disch := first | assumption | omega | (simp only [WL,AV.isCell,xAb,xAa,xAL] <;> omega) | rfl | decide) only [↓reduceIte,WB,xAW,xAd,xAV,xAm,xAl,AV.cells,AV.isCell,xAc,xAi,xAj,xAz,xAA,xAB,xAC,xAD,xAE,xAX,xAF,xAG,xAn,xAH,xAo,xAp,xAI,xAq,xAr,xAk,Nat.reduceDiv,Nat.reduceMod,WP,xAT,xAM,xBm,xBl,xBk,xAP,xAS,xAN,W2,xAe,xAf,xAh,Nat.reduceAdd,Nat.reduceSub,Nat.reduceLeDiff,Nat.reduceMul,Int.reduceAdd,Int.reduceSub,Int.reduceMul,Int.reduceLT,Int.reduceLE,Int.reduceEq,Int.reduceToNat,Int.reduceNeg,Nat.reduceEqDiff,Nat.reduceBEq,Nat.reduceLT,xAb,xAa,xAs,xA1,xAY,xAZ,h15,h50,h53,h52,xKj,hlp]
end
end Go.Abs.Tree
