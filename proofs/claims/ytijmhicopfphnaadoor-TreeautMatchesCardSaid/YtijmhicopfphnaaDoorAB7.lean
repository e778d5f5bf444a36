/- The reference's Trim. -/
import Derived.Test.YtijmhicopfphnaaDoorAbsBun
import Derived.Test.YtijmhicopfphnaaDoorAB6
import Derived.Test.YtijmhicopfphnaaDoorAR1
namespace Go.Abs.Tree
open Go Go.Abs
set_option linter.unusedSimpArgs false
set_option linter.unusedVariables false
theorem BlT.frzL {T : Heap} {v : AV} {w n : Nat} {cs : List AV} (h : BlT T v w n cs) (hf : ∀ d H,cs.mapM (frz d H) = some cs) : ∃ z,∀ d (c0 c1 c2 c3 : Blk),frz (d + 1) (c0 :: c1 :: c2 :: c3 :: T) v = some (.sl z n cs) := by
 rcases h with ⟨rfl,rfl,rfl⟩ | ⟨k,rfl,hg,hl⟩
 ·exact ⟨true,fun d _ _ _ _ => rfl⟩
 ·refine ⟨false,fun d c0 c1 c2 c3 => ?_⟩
  have hg' : (c0 :: c1 :: c2 :: c3 :: T)[k + 1 + 1 + 1 + 1]? = some (.cells false false cs) := by simpa using hg
  simp only [frz,hg']
  rw [if_pos (by omega),List.drop_zero,List.take_of_length_le (by omega),hf]
  rfl
theorem BlT.keep {T T' : Heap} {v : AV} {w n : Nat} {cs : List AV} (h : BlT T v w n cs) (hk : ∀ (j : Nat) (x : Blk),T[j]? = some x → T'[j]? = some x) : BlT T' v w n cs := by
 rcases h with h | ⟨k,h1,h2,h3⟩
 ·exact .inl h
 ·exact .inr ⟨k,h1,hk _ _ h2,h3⟩
theorem xXF (j : Nat) : yC1 (.sl true 0 []) j := fun n w e => by cases e
theorem xUg {n : Aut} {e : Int} (he : e ≠ 0) (h15 : L.pcall 15 [n.av] = some (.int .i64 e)) : L.pcall 23 [n.av] = some (.tup [yED,.int .i64 e]) := by
 rw [yFV,a23,xAu]
 simp (maxSteps := 30000000) (disch := first | assumption | omega | (simp only [WL,AV.isCell,xAb,xAa,xAL] <;> omega) | rfl | decide) only [↓reduceIte,WB,xAW,xAd,xAV,xAm,xAl,AV.cells,AV.isCell,xAc,xAi,xAj,xAz,xAA,xAB,xAC,xAD,xAE,xAX,xAF,xAG,xAn,xAH,xAo,xAp,xAI,xAq,xAr,xAk,Nat.reduceDiv,Nat.reduceMod,WP,xAT,xAM,xBm,xBl,xBk,xAP,xAS,xAN,W2,xAe,xAf,xAh,Nat.reduceAdd,Nat.reduceSub,Nat.reduceLeDiff,Nat.reduceMul,Int.reduceAdd,Int.reduceSub,Int.reduceMul,Int.reduceLT,Int.reduceLE,Int.reduceEq,Int.reduceToNat,Int.reduceNeg,Nat.reduceEqDiff,Nat.reduceBEq,Nat.reduceLT,xAb,xAa,xAx,xAy,xAQ,xAR,xAY,xAZ,h15,he]
set_option maxRecDepth 20000 in
set_option maxHeartbeats 4000000 in
theorem yEC (n : Aut) {s : Nat} (hn : n.states = (s : Nat)) (hs : s ≤ 64) (h1 : n.st.length < 1000000) (h2 : n.fi.length < 1000000) (hl : n.rl.length < 1000000) (hq : ∀ q ∈ n.st,0 ≤ q ∧ q < (s : Int)) (hf : ∀ q ∈ n.fi,0 ≤ q ∧ q < (s : Int)) (hr : RlS s n.rl) (h15 : L.pcall 15 [n.av] = some (.int .i64 0))
  {K : List Bool} (hKe : xUh s n (xDR s n) = K) : ∃ z1 z2 z3,L.pcall 23 [n.av] = some (.tup [(Aut.mk n.vars ((rnk (fun j => K.getD j false) s : Nat) : Int) z1 (fl K (rks (fun j => K.getD j false) s) n.st) z2 (fl K (rks (fun j => K.getD j false) s) n.fi) z3 (flR K (rks (fun j => K.getD j false) s) n.rl)).av,.int .i64 0]) := by
 obtain ⟨nv,ns,y1,nst,y2,nfi,y3,nrl⟩ := n
 have hn' : ns = (s : Nat) := hn
 subst hn'
 clear hn
 have h59 := xZO _ rfl hs h1 h2 hl hq hf hr
 have hK := congrArg List.length hKe
 rw [xMB] at hK
 rw [hKe] at h59
 replace hK := hK.symm
 dsimp only [Aut.av,Aut.cells] at h59 h15 h1 h2 hl hq hf hr ⊢
 have e0 := yGx (n := ⟨nv,(s : Nat),y1,nst,y2,nfi,y3,nrl⟩) rfl hs hK s 0 (by omega)
 have hR := xXJ (fun j => K.getD j false) s
 have hrep : xBW (rks (fun j => K.getD j false) 0 ++ List.replicate s 0) = xEa (List.replicate s 0) := by simp [rks,xBW,xEa]
 rw [show HT ⟨nv,(s : Nat),y1,nst,y2,nfi,y3,nrl⟩ (rks (fun j => K.getD j false) 0 ++ List.replicate s 0) ((rnk (fun j => K.getD j false) 0 : Nat) : Int) (.sl true 0 []) (.sl true 0 []) (.sl true 0 []) [] = [.cells false false [.int .i64 nv,.int .i64 (s : Nat),iw y1 nst,iw y2 nfi,.sl y3 nrl.length (rls nrl)],yEE,.cells false false [.int .i64 nv,.int .i64 0,.sl true 0 [],.sl true 0 [],.sl true 0 []],.cells false false (xEa (List.replicate s 0))] from by rw [← hrep]; rfl] at e0
 generalize rks (fun j => K.getD j false) s = R at *
 generalize ((rnk (fun j => K.getD j false) s : Nat) : Int) = N at *
 obtain ⟨T1,v1,k1,b1,m1⟩ := tl1 (n := ⟨nv,(s : Nat),y1,nst,y2,nfi,y3,nrl⟩) (N := N) (o3 := .sl true 0 []) (o4 := .sl true 0 []) h1 hs hK hR hq rfl rfl nst.length 0 [] (.sl true 0 []) [] (Nat.zero_add _) (by simp) (.inl ⟨rfl,rfl,rfl⟩)
 obtain ⟨T2,v2,k2,b2,m2⟩ := tl2 (n := ⟨nv,(s : Nat),y1,nst,y2,nfi,y3,nrl⟩) (N := N) (o2 := v1) (o4 := .sl true 0 []) h2 hs hK hR hf b1.cell rfl nfi.length 0 T1 (.sl true 0 []) [] (Nat.zero_add _) (by simp) (.inl ⟨rfl,rfl,rfl⟩)
 obtain ⟨T3,v3,k3,b3,m3⟩ := tl3 (n := ⟨nv,(s : Nat),y1,nst,y2,nfi,y3,nrl⟩) (N := N) (o2 := v1) (o3 := v2) hl hs hK hR hr b1.cell b2.cell nrl.length 0 T2 (.sl true 0 []) [] (Nat.zero_add _) (by simp) (.inl ⟨rfl,rfl,rfl⟩)
 have b1' := (b1.keep fun j x q => (m2 j x (xXF j) q).1).keep fun j x q => (m3 j x (xXF j) q).1
 have b2' := b2.keep fun j x q => (m3 j x (xXF j) q).1
 have c1 := b1'.cell
 have c2 := b2'.cell
 have c3 := b3.cell
 obtain ⟨z1,f1⟩ := b1'.frzL (fun d H => xEm d H _)
 obtain ⟨z2,f2⟩ := b2'.frzL (fun d H => xEm d H _)
 obtain ⟨z3,f3⟩ := b3.frzL (fun d H => xAx d H _)
 simp only [List.drop_zero,List.nil_append,Int.natCast_zero] at e0 k1 k2 k3 f1 f2 f3
 refine ⟨z1,z2,z3,?_⟩
 have hall : ([.int .i64 nv,.int .i64 N,v1,v2,v3] : List AV).all AV.isCell = true := by simp only [List.all_cons,List.all_nil,c1,c2,c3]; rfl
 clear b1 b2 b3 b1' b2' m1 m2 m3 hrep
 show _ = some (AV.tup [.agg [.int .i64 nv,.int .i64 N,.sl z1 (fl K R nst).length (xBW (fl K R nst)),.sl z2 (fl K R nfi).length (xBW (fl K R nfi)),.sl z3 (flR K R nrl).length (rls (flR K R nrl))],.int .i64 0])
 generalize fl K R nst = l1 at *
 generalize fl K R nfi = l2 at *
 generalize flR K R nrl = l3 at *
 generalize blz K = LK at *
 rw [yFV,a23,xAu]
 simp (maxSteps := 30000000) (disch := first | assumption | omega | (simp only [WL,AV.isCell,xAb,xAa,xAL] <;> omega) | rfl | decide) only [↓reduceIte,WB,xAW,xAd,xAV,xAm,xAl,AV.cells,AV.isCell,xAc,xAi,xAj,xAz,xAA,xAB,xAC,xAD,xAE,xAX,xAF,xAG,xAn,xAH,xAo,xAp,xAI,xAq,xAr,xAk,Nat.reduceDiv,Nat.reduceMod,WP,xAT,xAM,xBm,xBl,xBk,xAP,xAS,xAN,W2,xAe,xAf,xAh,Nat.reduceAdd,Nat.reduceSub,Nat.reduceLeDiff,Nat.reduceMul,Int.reduceAdd,Int.reduceSub,Int.reduceMul,Int.reduceLT,Int.reduceLE,Int.reduceEq,Int.reduceToNat,Int.reduceNeg,Nat.reduceEqDiff,Nat.reduceBEq,Nat.reduceLT,xAb,xAa,xAx,xAy,xAQ,xAR,xAY,xAZ,h15,h59,xRh,xNl,xNo,xIh,e0,k1,k2,k3,c1,c2,c3,hall,f1,f2,f3]
theorem xS9 (K : Nat → Bool) {s j : Nat} (h : j < s) : (xGx K s).getD j 0 = if K j = true then ((rnk K j : Nat) : Int) else -1 := by
 unfold xGx
 rw [List.getD_eq_getElem?_getD,List.getElem?_map,List.getElem?_range h]; rfl
theorem xQP {K : List Bool} {s : Nat} : ∀ {l : List Int},(∀ q ∈ l,0 ≤ q ∧ q < (s : Int)) → xLU (xGx (fun j => K.getD j false) s) l = fl K (rks (fun j => K.getD j false) s) l
 | [],_ => rfl
 | q :: l,h => by
  obtain ⟨h0,h1⟩ := h q List.mem_cons_self
  obtain ⟨x,rfl⟩ := Int.eq_ofNat_of_zero_le h0
  have hx : x < s := by omega
  have ih := xQP (K := K) (l := l) fun q hq => h q (List.mem_cons_of_mem _ hq)
  have e : xJL (xGx (fun j => K.getD j false) s) (x : Int) = if K.getD x false = true then ((rnk (fun j => K.getD j false) x : Nat) : Int) else -1 := xS9 (fun j => K.getD j false) hx
  rw [xLU,e,ih]
  cases c : K.getD x false with
  | true => rw [xXH c,xXK _ hx]; simp
  | false => rw [yC3 c]; simp
theorem xXG {K : List Bool} {s : Nat} : ∀ {l : List Rl},RlS s l → xX9 (xGx (fun j => K.getD j false) s) l = flR K (rks (fun j => K.getD j false) s) l
 | [],_ => rfl
 | u :: l,h => by
  have hu := h.h u List.mem_cons_self
  obtain ⟨ul,ur,ut,up,un⟩ := u
  simp only at hu
  obtain ⟨⟨l0,l1⟩,⟨q0,q1⟩,⟨t0,t1⟩,-⟩ := hu
  obtain ⟨xl,rfl⟩ := Int.eq_ofNat_of_zero_le l0
  obtain ⟨xr,rfl⟩ := Int.eq_ofNat_of_zero_le q0
  obtain ⟨xt,rfl⟩ := Int.eq_ofNat_of_zero_le t0
  have la : xl < s := by omega
  have lb : xr < s := by omega
  have lc : xt < s := by omega
  have ih := xXG (K := K) (l := l) ⟨fun q hq => h.h q (List.mem_cons_of_mem _ hq)⟩
  have e : ∀ {x : Nat},x < s → xJL (xGx (fun j => K.getD j false) s) (x : Int) = if K.getD x false = true then ((rnk (fun j => K.getD j false) x : Nat) : Int) else -1 := fun hx => xS9 (fun j => K.getD j false) hx
  have hg : ∀ {x : Nat},x < s → (rks (fun j => K.getD j false) s).getD x 0 = ((rnk (fun j => K.getD j false) x : Nat) : Int) := fun hx => xXK _ hx
  rw [xX9,flR,List.filterMap_cons,← flR,ih]
  simp only [mvR,e la,e lb,e lc,Int.toNat_natCast,hg la,hg lb,hg lc]
  cases c1 : K.getD xl false <;> cases c2 : K.getD xr false <;> cases c3 : K.getD xt false <;> simp <;> omega
end Go.Abs.Tree
