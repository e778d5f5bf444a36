/- The reference's Trim. -/
import Derived.Test.YtijmhicopfphnaaDoorAbsBun
import Derived.Test.YtijmhicopfphnaaDoorAB6
import Derived.Test.YtijmhicopfphnaaDoorAR1
import Derived.Test.YtijmhicopfphnaaDoorAMM
import Derived.Test.YtijmhicopfphnaaDoorAMO
namespace Go.Abs.Tree
open Go Go.Abs
set_option linter.unusedSimpArgs false
set_option linter.unusedVariables false
theorem BlT.frzL {T : Heap} {v : AV} {w n : Nat} {cs : List AV} (h : BlT T v w n cs) (hf : ∀ d H,cs.mapM (frz d H) = some cs) : ∃ z,∀ d (c0 c1 c2 c3 : Blk),frz (d + 1) (c0 :: c1 :: c2 :: c3 :: T) v = some (.sl z n cs) := by
 rcases h with ⟨rfl,rfl,rfl⟩ | ⟨k,rfl,hg,hl⟩
 ·exact ⟨true,fun d _ _ _ _ => rfl⟩
 ·refine ⟨false,fun d c0 c1 c2 c3 => ?_⟩
  have hg' : (c0 :: c1 :: c2 :: c3 :: T)[k + 1 + 1 + 1 + 1]? = some (.cells false false cs) := by simpa using hg
  simp only [frz,hg']
  rw [if_pos (by omega),List.drop_zero,List.take_of_length_le (by omega),hf]
  rfl
theorem BlT.keep {T T' : Heap} {v : AV} {w n : Nat} {cs : List AV} (h : BlT T v w n cs) (hk : ∀ (j : Nat) (x : Blk),T[j]? = some x → T'[j]? = some x) : BlT T' v w n cs := by
 rcases h with h | ⟨k,h1,h2,h3⟩
 ·exact .inl h
 ·exact .inr ⟨k,h1,hk _ _ h2,h3⟩
theorem xZa (j : Nat) : yEd (.sl true 0 []) j := fun n w e => by cases e
theorem xV8 {n : Aut} {e : Int} (he : e ≠ 0) (h15 : L.pcall 15 [n.av] = some (.int .i64 e)) : L.pcall 23 [n.av] = some (.tup [yFE,.int .i64 e]) := by
 rw [yGQ,a23,xAd]
 simp (maxSteps := 30000000) (disch := first | assumption | omega | (simp only [WL,AV.isCell,xAb,xAa,xAq] <;> omega) | rfl | decide) only [WB,Nat.reduceSub,AV.cells,AV.isCell,↓reduceIte,h15,xE0,xAJ,he,Nat.reduceAdd]
set_option maxRecDepth 20000 in
set_option maxHeartbeats 4000000 in
theorem yFD (n : Aut) {s : Nat} (hn : n.states = (s : Nat)) (hs : s ≤ 64) (h1 : n.st.length < 1000000) (h2 : n.fi.length < 1000000) (hl : n.rl.length < 1000000) (hq : ∀ q ∈ n.st,0 ≤ q ∧ q < (s : Int)) (hf : ∀ q ∈ n.fi,0 ≤ q ∧ q < (s : Int)) (hr : RlS s n.rl) (h15 : L.pcall 15 [n.av] = some (.int .i64 0))
  {K : List Bool} (hKe : xV7 s n (xJ5 s n) = K) : ∃ z1 z2 z3,L.pcall 23 [n.av] = some (.tup [(Aut.mk n.vars ((rnk (fun j => K.getD j false) s : Nat) : Int) z1 (fl K (rks (fun j => K.getD j false) s) n.st) z2 (fl K (rks (fun j => K.getD j false) s) n.fi) z3 (flR K (rks (fun j => K.getD j false) s) n.rl)).av,.int .i64 0]) := by
 obtain ⟨nv,ns,y1,nst,y2,nfi,y3,nrl⟩ := n
 have hn' : ns = (s : Nat) := hn
 subst hn'
 clear hn
 have h59 := yBc _ rfl hs h1 h2 hl hq hf hr
 have hK := congrArg List.length hKe
 rw [xQw] at hK
 rw [hKe] at h59
 replace hK := hK.symm
 dsimp only [Aut.av,Aut.cells] at h59 h15 h1 h2 hl hq hf hr ⊢
 have e0 := yHw (n := ⟨nv,(s : Nat),y1,nst,y2,nfi,y3,nrl⟩) rfl hs hK s 0 (by omega)
 have hR := xZk (fun j => K.getD j false) s
 have hrep : xD8 (rks (fun j => K.getD j false) 0 ++ List.replicate s 0) = xJG (List.replicate s 0) := by simp [rks,xD8,xJG]
 rw [show HT ⟨nv,(s : Nat),y1,nst,y2,nfi,y3,nrl⟩ (rks (fun j => K.getD j false) 0 ++ List.replicate s 0) ((rnk (fun j => K.getD j false) 0 : Nat) : Int) (.sl true 0 []) (.sl true 0 []) (.sl true 0 []) [] = [.cells false false [.int .i64 nv,.int .i64 (s : Nat),iw y1 nst,iw y2 nfi,.sl y3 nrl.length (rls nrl)],yFF,.cells false false [.int .i64 nv,.int .i64 0,.sl true 0 [],.sl true 0 [],.sl true 0 []],.cells false false (xJG (List.replicate s 0))] from by rw [← hrep]; rfl] at e0
 generalize rks (fun j => K.getD j false) s = R at *
 generalize ((rnk (fun j => K.getD j false) s : Nat) : Int) = N at *
 obtain ⟨T1,v1,k1,b1,m1⟩ := tl1 (n := ⟨nv,(s : Nat),y1,nst,y2,nfi,y3,nrl⟩) (N := N) (o3 := .sl true 0 []) (o4 := .sl true 0 []) h1 hs hK hR hq rfl rfl nst.length 0 [] (.sl true 0 []) [] (Nat.zero_add _) (by simp) (.inl ⟨rfl,rfl,rfl⟩)
 obtain ⟨T2,v2,k2,b2,m2⟩ := tl2 (n := ⟨nv,(s : Nat),y1,nst,y2,nfi,y3,nrl⟩) (N := N) (o2 := v1) (o4 := .sl true 0 []) h2 hs hK hR hf b1.cell rfl nfi.length 0 T1 (.sl true 0 []) [] (Nat.zero_add _) (by simp) (.inl ⟨rfl,rfl,rfl⟩)
 obtain ⟨T3,v3,k3,b3,m3⟩ := tl3 (n := ⟨nv,(s : Nat),y1,nst,y2,nfi,y3,nrl⟩) (N := N) (o2 := v1) (o3 := v2) hl hs hK hR hr b1.cell b2.cell nrl.length 0 T2 (.sl true 0 []) [] (Nat.zero_add _) (by simp) (.inl ⟨rfl,rfl,rfl⟩)
 have b1' := (b1.keep fun j x q => (m2 j x (xZa j) q).1).keep fun j x q => (m3 j x (xZa j) q).1
 have b2' := b2.keep fun j x q => (m3 j x (xZa j) q).1
 have c1 := b1'.cell
 have c2 := b2'.cell
 have c3 := b3.cell
 obtain ⟨z1,f1⟩ := b1'.frzL (fun d H => xDz d H _)
 obtain ⟨z2,f2⟩ := b2'.frzL (fun d H => xDz d H _)
 obtain ⟨z3,f3⟩ := b3.frzL (fun d H => xFt d H _)
 simp only [List.drop_zero,List.nil_append,Int.natCast_zero] at e0 k1 k2 k3 f1 f2 f3
 refine ⟨z1,z2,z3,?_⟩
 have hall : ([.int .i64 nv,.int .i64 N,v1,v2,v3] : List AV).all AV.isCell = true := by simp only [List.all_cons,List.all_nil,c1,c2,c3]; rfl
 clear b1 b2 b3 b1' b2' m1 m2 m3 hrep
 show _ = some (AV.tup [.agg [.int .i64 nv,.int .i64 N,.sl z1 (fl K R nst).length (xD8 (fl K R nst)),.sl z2 (fl K R nfi).length (xD8 (fl K R nfi)),.sl z3 (flR K R nrl).length (rls (flR K R nrl))],.int .i64 0])
 generalize fl K R nst = l1 at *
 generalize fl K R nfi = l2 at *
 generalize flR K R nrl = l3 at *
 generalize blz K = LK at *
 rw [yGQ,a23,xAd]
 simp (maxSteps := 30000000) (disch := first | assumption | omega | (simp only [WL,AV.isCell,xAb,xAa,xAq] <;> omega) | rfl | decide) only [WB,Nat.reduceSub,AV.cells,AV.isCell,↓reduceIte,h15,xE0,xAJ,h59,Nat.reduceAdd,Nat.reduceLeDiff,xDG,xT5,e0,xRa,k1,xRd,k2,xNY,k3,f1,f2,f3]
theorem xVe (K : Nat → Bool) {s j : Nat} (h : j < s) : (xMz K s).getD j 0 = if K j = true then ((rnk K j : Nat) : Int) else -1 := by
 unfold xMz
 rw [List.getD_eq_getElem?_getD,List.getElem?_map,List.getElem?_range h]; rfl
theorem xTJ {K : List Bool} {s : Nat} : ∀ {l : List Int},(∀ q ∈ l,0 ≤ q ∧ q < (s : Int)) → xNs (xMz (fun j => K.getD j false) s) l = fl K (rks (fun j => K.getD j false) s) l
 | [],_ => rfl
 | q :: l,h => by
  obtain ⟨h0,h1⟩ := h q List.mem_cons_self
  obtain ⟨x,rfl⟩ := Int.eq_ofNat_of_zero_le h0
  have hx : x < s := by omega
  have ih := xTJ (K := K) (l := l) fun q hq => h q (List.mem_cons_of_mem _ hq)
  have e : xNi (xMz (fun j => K.getD j false) s) (x : Int) = if K.getD x false = true then ((rnk (fun j => K.getD j false) x : Nat) : Int) else -1 := xVe (fun j => K.getD j false) hx
  rw [xNs,e,ih]
  cases c : K.getD x false with
  | true => rw [xZi c,xZl _ hx]; simp
  | false => rw [yEf c]; simp
theorem xZb {K : List Bool} {s : Nat} : ∀ {l : List Rl},RlS s l → xVW (xMz (fun j => K.getD j false) s) l = flR K (rks (fun j => K.getD j false) s) l
 | [],_ => rfl
 | u :: l,h => by
  have hu := h.h u List.mem_cons_self
  obtain ⟨ul,ur,ut,up,un⟩ := u
  simp only at hu
  obtain ⟨⟨l0,l1⟩,⟨q0,q1⟩,⟨t0,t1⟩,-⟩ := hu
  obtain ⟨xl,rfl⟩ := Int.eq_ofNat_of_zero_le l0
  obtain ⟨xr,rfl⟩ := Int.eq_ofNat_of_zero_le q0
  obtain ⟨xt,rfl⟩ := Int.eq_ofNat_of_zero_le t0
  have la : xl < s := by omega
  have lb : xr < s := by omega
  have lc : xt < s := by omega
  have ih := xZb (K := K) (l := l) ⟨fun q hq => h.h q (List.mem_cons_of_mem _ hq)⟩
  have e : ∀ {x : Nat},x < s → xNi (xMz (fun j => K.getD j false) s) (x : Int) = if K.getD x false = true then ((rnk (fun j => K.getD j false) x : Nat) : Int) else -1 := fun hx => xVe (fun j => K.getD j false) hx
  have hg : ∀ {x : Nat},x < s → (rks (fun j => K.getD j false) s).getD x 0 = ((rnk (fun j => K.getD j false) x : Nat) : Int) := fun hx => xZl _ hx
  rw [xVW,flR,List.filterMap_cons,← flR,ih]
  simp only [mvR,e la,e lb,e lc,Int.toNat_natCast,hg la,hg lb,hg lc]
  cases c1 : K.getD xl false <;> cases c2 : K.getD xr false <;> cases c3 : K.getD xt false <;> simp <;> omega
theorem yCg {w : Nat} (hw : w < 18446744073709551616) : ∃ u B r,xCG L 48 [.int .u64 (w : Nat)] = some (u,B) ∧ OwnS u B r ∧ CanS r (fun j => decide (j < 64) && w.testBit j) := by
 have hW : W [w] := by
  intro x hx
  simp only [List.mem_singleton] at hx
  rw [hx]; exact hw
 have hm : ∀ j,mem [w] j = (decide (j < 64) && w.testBit j) := fun j => by
  unfold mem
  by_cases c : j < 64
  ·rw [show j / 64 = 0 by omega,show j % 64 = j by omega]
   simp [c,show j < 4096 by omega]
  ·have : ([w] : List Nat).getD (j / 64) 0 = 0 := xJT (by simp; omega)
   rw [this]; simp [c]
 have h1 : HasSet (sw false [w]) (fun j => decide (j < 64) && w.testBit j) := ⟨false,[w],rfl,hW,by simp,hm⟩
 have w0 : W [] := by intro x hx; simp at hx
 obtain ⟨u,B,h3,h4⟩ := xYn (za := false) (zb := true) hW w0 (by simp) (by simp)
 have hc := (xYo h1 (xYm (z := true)) hW w0 hm (fun j => by simp [mem])).congr (T := fun j => decide (j < 64) && w.testBit j) (fun j => by simp)
 have h3' : xCG L 95 [.sl false 1 [.int .u64 (w : Nat)],.sl true 0 []] = some (u,B) := h3
 generalize xKz (· ||| ·) [w] [] = r at *
 rcases h4 with ⟨rfl,rfl,rfl⟩ | ⟨x,rfl,rfl⟩
 ·have h73 : xCG L 73 [.sl false 1 [.int .u64 (w : Nat)]] = some (.sl true 0 [],[]) := by
   rw [xBI,yGZ,a73,xAp]
   simp (disch := omega) only [WB,Nat.reduceSub,WP,h3',xCY,xD9,xCJ]
  refine ⟨_,_,[],?_,.inl ⟨rfl,rfl,rfl⟩,hc⟩
  rw [xBI,yGT,a48,xAp]
  simp (disch := omega) only [WB,Nat.reduceSub,AV.cells,↓reduceIte,AV.isCell,WP,h73,xCY,xD9,xCJ]
 ·have h73 : xCG L 73 [.sl false 1 [.int .u64 (w : Nat)]] = some (.own false 0 0 r.length 1,[.cells false false (w64 (r ++ x))]) := by
   rw [xBI,yGZ,a73,xAp]
   simp (disch := omega) only [WB,Nat.reduceSub,WP,h3',xCY,xD9,xCJ,↓reduceIte]
  refine ⟨.own false 0 0 r.length 1,[.cells false false (w64 (r ++ x))],r,?_,.inr ⟨x,rfl,rfl⟩,hc⟩
  rw [xBI,yGT,a48,xAp]
  simp (disch := omega) only [WB,Nat.reduceSub,AV.cells,↓reduceIte,AV.isCell,WP,h73,xCY,xD9,xCJ]
theorem yBh {n : Aut} {z : Bool} {t : List Lf} {e : Int} (he : e ≠ 0) (hb : L.pcall 47 [n.av,tw z t] = some (.int .i64 e)) : xCG L 16 [n.av,tw z t] = some (.tup [.sl true 0 [],.int .i64 e],[]) := by
 rw [xBI,yGc,a16,xAp]
 simp (maxSteps := 30000000) (disch := first | assumption | omega | (simp only [WL,AV.isCell,xAb,xAa] <;> omega) | rfl | decide) only [WB,Nat.reduceAdd,Nat.reduceSub,AV.cells,AV.isCell,↓reduceIte,hb,xE0,xAJ,he,WP]
theorem yD9 {n : Aut} {z : Bool} {t : List Lf} {w : Nat} (hw : w < 18446744073709551616) (hb : L.pcall 47 [n.av,tw z t] = some (.int .i64 0)) (hs : L.pcall 49 [n.av,tw z t] = some (.int .u64 (w : Nat))) :
  ∃ u B r,xCG L 16 [n.av,tw z t] = some (.tup [u,.int .i64 0],B) ∧ OwnS u B r ∧ CanS r (fun j => decide (j < 64) && w.testBit j) := by
 obtain ⟨u,B,r,h1,h2,h3⟩ := yCg hw
 rcases h2 with ⟨rfl,rfl,rfl⟩ | ⟨x,rfl,rfl⟩
 ·refine ⟨_,_,[],?_,.inl ⟨rfl,rfl,rfl⟩,h3⟩
  rw [xBI,yGc,a16,xAp]
  simp (maxSteps := 30000000) (disch := first | assumption | omega | (simp only [WL,AV.isCell,xAb,xAa] <;> omega) | rfl | decide) only [WB,Nat.reduceAdd,Nat.reduceSub,AV.cells,AV.isCell,↓reduceIte,hb,xE0,xAJ,hs,WP,h1,xCY,xD9,xCJ]
 ·refine ⟨.own false 0 0 r.length 1,[.cells false false (w64 (r ++ x))],r,?_,.inr ⟨x,rfl,rfl⟩,h3⟩
  rw [xBI,yGc,a16,xAp]
  simp (maxSteps := 30000000) (disch := first | assumption | omega | (simp only [WL,AV.isCell,xAb,xAa] <;> omega) | rfl | decide) only [WB,Nat.reduceAdd,Nat.reduceSub,AV.cells,AV.isCell,↓reduceIte,hb,xE0,xAJ,hs,WP,h1,xCY,xD9,xCJ]
theorem yBi {n : Aut} {e : Int} (he : e ≠ 0) (hb : L.pcall 14 [n.av] = some (.int .i64 e)) : xCG L 20 [n.av] = some (.tup [.sl true 0 [],.int .i64 e],[]) := by
 rw [xBI,yGe,a20,xAp]
 simp (maxSteps := 30000000) (disch := first | assumption | omega | (simp only [WL,AV.isCell,xAb,xAa] <;> omega) | rfl | decide) only [WB,Nat.reduceSub,AV.cells,AV.isCell,↓reduceIte,hb,xE0,xAJ,he,WP]
theorem yEa {n : Aut} {w : Nat} (hw : w < 18446744073709551616) (hb : L.pcall 14 [n.av] = some (.int .i64 0)) (hs : L.pcall 55 [n.av] = some (.int .u64 (w : Nat))) :
  ∃ u B r,xCG L 20 [n.av] = some (.tup [u,.int .i64 0],B) ∧ OwnS u B r ∧ CanS r (fun j => decide (j < 64) && w.testBit j) := by
 obtain ⟨u,B,r,h1,h2,h3⟩ := yCg hw
 rcases h2 with ⟨rfl,rfl,rfl⟩ | ⟨x,rfl,rfl⟩
 ·refine ⟨_,_,[],?_,.inl ⟨rfl,rfl,rfl⟩,h3⟩
  rw [xBI,yGe,a20,xAp]
  simp (maxSteps := 30000000) (disch := first | assumption | omega | (simp only [WL,AV.isCell,xAb,xAa] <;> omega) | rfl | decide) only [WB,Nat.reduceSub,AV.cells,AV.isCell,↓reduceIte,hb,xE0,xAJ,hs,WP,h1,xCY,xD9,xCJ]
 ·refine ⟨.own false 0 0 r.length 1,[.cells false false (w64 (r ++ x))],r,?_,.inr ⟨x,rfl,rfl⟩,h3⟩
  rw [xBI,yGe,a20,xAp]
  simp (maxSteps := 30000000) (disch := first | assumption | omega | (simp only [WL,AV.isCell,xAb,xAa] <;> omega) | rfl | decide) only [WB,Nat.reduceSub,AV.cells,AV.isCell,↓reduceIte,hb,xE0,xAJ,hs,WP,h1,xCY,xD9,xCJ]
theorem yBj {n : Aut} {z : Bool} {t : List Lf} {e : Int} (he : e ≠ 0) (hb : L.pcall 47 [n.av,tw z t] = some (.int .i64 e)) : L.pcall 18 [n.av,tw z t] = some (.tup [.bool false,.int .i64 e]) := by
 rw [yGN,a18,xAd]
 simp (maxSteps := 30000000) (disch := first | assumption | omega | (simp only [WL,AV.isCell,xAb,xAa] <;> omega) | rfl | decide) only [WB,Nat.reduceAdd,Nat.reduceSub,AV.cells,AV.isCell,↓reduceIte,hb,xE0,xAJ,he]
theorem yEb {n : Aut} {z : Bool} {t : List Lf} {w f : Nat} (hw : w < 18446744073709551616) (hf : f < 18446744073709551616) (hb : L.pcall 47 [n.av,tw z t] = some (.int .i64 0)) (hs : L.pcall 49 [n.av,tw z t] = some (.int .u64 (w : Nat))) (h54 : L.pcall 54 [iw n.z2 n.fi] = some (.int .u64 (f : Nat))) :
  ∃ b,L.pcall 18 [n.av,tw z t] = some (.tup [.bool b,.int .i64 0]) ∧ (b = true ↔ ∃ j,w.testBit j = true ∧ f.testBit j = true) := by
 have hand := xTG hw hf
 have e0 : ((((w &&& f : Nat) : Int) = 0)) = (w &&& f = 0) := propext ⟨fun h => by omega,fun h => by omega⟩
 refine ⟨!decide (w &&& f = 0),?_,?_⟩
 ·rw [yGN,a18,xAd]
  simp (maxSteps := 30000000) (disch := first | assumption | omega | (simp only [WL,AV.isCell,xAb,xAa] <;> omega) | rfl | decide) only [WB,Nat.reduceAdd,Nat.reduceSub,AV.cells,AV.isCell,↓reduceIte,hb,xE0,xAJ,hs,xAm,h54,hand,e0]
 ·rw [← yE1]; simp
theorem xHV (f : Arg) (l : List Arg) : (AOp.ofcall f l).args = f :: l := rfl
theorem xJe (cs : List AV) (o : Nat) : yGM (.vptr cs o) = true := rfl
theorem xZc (k : Nat) (vs : List AV) : xCY k (.tup vs) = .tup (vs.map (xD9 k)) := rfl
theorem xZd (k : Nat) (vs : List AV) : xD9 k (.agg vs) = .agg (vs.map (xCJ k)) := rfl
theorem xZe (k : Nat) (i : IntKind) (n : Int) : xD9 k (.int i n) = .int i n := rfl
theorem xSU (k : Nat) (i : IntKind) (n : Int) : xCJ k (.int i n) = .int i n := rfl
def OwF (G : Heap) (v : AV) (w n : Nat) (cs : List AV) : Prop := (v = .sl true 0 [] ∧ n = 0 ∧ cs = []) ∨ ∃ k,v = .own false k 0 n w ∧ G[k]? = some (.cells false false cs) ∧ cs.length = n * w
def OwA (G : Heap) (v : AV) (a s : Int) (st fi : List Int) (rl : List Rl) : Prop := ∃ f1 f2 f3,v = .agg [.int .i64 a,.int .i64 s,f1,f2,f3] ∧ OwF G f1 1 st.length (xD8 st) ∧ OwF G f2 1 fi.length (xD8 fi) ∧ OwF G f3 5 rl.length (rls rl)
theorem xZf (num : List Int) (zn z : Bool) (l : List Int) (hl : l.length < 1099511627776) (hq : ∀ q ∈ l,0 ≤ q ∧ q < (num.length : Nat)) :
  ∃ v B,xCG L 89 [iw z l,.vptr [iw zn num] 0] = some (v,B) ∧ ((v = .sl true 0 [] ∧ B = [] ∧ xNs num l = []) ∨ (v = .own false 0 0 (xNs num l).length 1 ∧ B = [.cells false false (xD8 (xNs num l))])) := by
 obtain ⟨G',v',e1,e2⟩ := xMv (zn := zn) (z := z) hl hq l.length 0 [] (.sl true 0 []) [] (by omega) (by simp) (.inl ⟨rfl,rfl⟩)
 simp only [Int.natCast_zero,List.drop_zero,List.nil_append] at e1 e2
 have := xUW num l
 generalize xNs num l = w at *
 rcases e2 with ⟨rfl,rfl⟩ | ⟨k,k0,rfl,hk⟩
 ·refine ⟨.sl true 0 [],[],?_,.inl ⟨rfl,rfl,rfl⟩⟩
  rw [xBI,yG2,a89,xAp]
  simp (disch := omega) only [WB,Nat.reduceAdd,Nat.reduceSub,xPr,e1,↓reduceIte,WP]
 ·refine ⟨.own false 0 0 w.length 1,[.cells false false (xD8 w)],?_,.inr ⟨rfl,rfl⟩⟩
  rw [xBI,yG2,a89,xAp]
  simp (disch := omega) only [WB,Nat.reduceAdd,Nat.reduceSub,xPr,e1,↓reduceIte,WP,hk]
structure InvP (G0 : Heap) (p : Nat) (zn : Bool) (num : List Int) (c0 c1 c2 c3 : AV) (G : Heap) (rv : AV) (w : List Rl) : Prop where
 g1 : G[1]? = some (.cells true false [iw zn num])
 kp : ∀ j,j < p → G[j]? = G0[j]?
 g3 : G[p]? = some (.cells false false [c0,c1,c2,c3,rv])
 own : (rv = .sl true 0 [] ∧ w = []) ∨ ∃ k,p < k ∧ rv = .own false k 0 w.length 5 ∧ G[k]? = some (.cells false false (rls w))
set_option maxRecDepth 20000 in
set_option maxHeartbeats 4000000 in
theorem xJV {G0 : Heap} {p : Nat} (hp : 2 < p) {num : List Int} {zn z : Bool} {rl : List Rl} {c0 c1 c2 c3 : AV} (hl : rl.length < 1099511627776) (hq : ∀ u ∈ rl,(0 ≤ u.l ∧ u.l < (num.length : Nat)) ∧ (0 ≤ u.r ∧ u.r < (num.length : Nat)) ∧ (0 ≤ u.t ∧ u.t < (num.length : Nat))) : ∀ d i G rv w,i + d = rl.length → w.length ≤ i → InvP G0 p zn num c0 c1 c2 c3 G rv w →
  ∃ G' rv',L.loop xRU yAk ⟨xRV (.ptr 1 0) (.ptr 2 0) (.ptr p 0) (.sl z rl.length (rls rl)) (.int .i64 (rl.length : Nat)) (.int .i64 (i : Nat)),G⟩ =
   some (.exit 0,⟨xRV (.ptr 1 0) (.ptr 2 0) (.ptr p 0) (.sl z rl.length (rls rl)) (.int .i64 (rl.length : Nat)) (.int .i64 (rl.length : Nat)),G'⟩) ∧ InvP G0 p zn num c0 c1 c2 c3 G' rv' (w ++ xVW num (rl.drop i))
 | 0,i,G,rv,w,h,hw,hI => by
  obtain rfl : i = rl.length := by omega
  refine ⟨G,rv,?_,by rw [List.drop_length,xVW,List.append_nil]; exact hI⟩
  rw [xUl]
  simp (maxSteps := 30000000) (disch := first | assumption | omega | (simp only [WL,AV.isCell,xAb,xAa] <;> omega) | rfl | decide) only [xPg,WB,↓reduceIte,xKD]
 | d + 1,i,G,rv,w,h,hw,hI => by
  have hlt : (i : Int) < (rl.length : Nat) := by omega
  have hi : i < rl.length := by omega
  obtain ⟨⟨l0,l1⟩,⟨r0',r1⟩,⟨t0,t1⟩⟩ := hq _ (xIN hi)
  have len3 := (List.getElem?_eq_some_iff.1 hI.g3).1
  have a1 : ∀ X : Heap,(G ++ X)[1]? = some (.cells true false [iw zn num]) := fun X => xAu hI.g1
  have a3 : ∀ X : Heap,(G ++ X)[p]? = some (.cells false false [c0,c1,c2,c3,rv]) := fun X => xAu hI.g3
  have b1 : (1 != G.length) = true := by rw [bne_iff_ne]; omega
  rw [xHR hi,xVW]
  by_cases c : 0 ≤ min (min (xNi num (rl.getD i r0).l) (xNi num (rl.getD i r0).r)) (xNi num (rl.getD i r0).t)
  ·rw [if_pos c]
   rcases hI.own with ⟨hrv,hww⟩ | ⟨k,k0,hrv,hk⟩
   ·subst hww
    obtain ⟨G',rv',e1,e2⟩ := xJV (G0 := G0) hp (zn := zn) (z := z) hl hq d (i + 1) ((G ++ [Blk.cells false false (xGI (mvR num (rl.getD i r0))),Blk.cells false false (xGI (mvR num (rl.getD i r0)))]).set p (Blk.cells false false [c0,c1,c2,c3,.own false (G.length + 1) 0 1 5])) (.own false (G.length + 1) 0 1 5) [mvR num (rl.getD i r0)] (by omega) (by simp)
     ⟨by rw [List.getElem?_set_ne (by omega)]; exact a1 _,fun j hj => by
      rw [List.getElem?_set_ne (by omega),List.getElem?_append_left (by omega)]; exact hI.kp j hj,by rw [List.getElem?_set_self (by simp; omega)],.inr ⟨G.length + 1,by omega,rfl,by rw [List.getElem?_set_ne (by omega)]; simp [rls,rows]⟩⟩
    refine ⟨G',rv',?_,by simpa using e2⟩
    simp only [xGI,mvR,xNi] at e1
    rw [xUl]
    simp only [hrv] at a3 ⊢
    simp (maxSteps := 30000000) (disch := first | assumption | omega | (simp only [WL,AV.isCell,xAb,xAa] <;> omega) | rfl | decide) only [xPg,WB,hlt,↓reduceIte,xCF,AV.cells,AV.isCell,Nat.reduceAdd,a1,W2,xAm,xMQ,b1,Nat.reduceLeDiff,xSs,xLg,xLf,c,a3,Nat.reduceMul,Nat.reduceBEq,xKD,e1]
   ·have hk' : ∀ X : Heap,(G ++ X)[k]? = some (.cells false false (rls w)) := fun X => xAu hk
    have klt := (List.getElem?_eq_some_iff.1 hk).1
    have htk : List.take (w.length * 5) (rls w) = rls w := List.take_of_length_le (by rw [xAa]; omega)
    have hsn := yAN w (mvR num (rl.getD i r0))
    obtain ⟨G',rv',e1,e2⟩ := xJV (G0 := G0) hp (zn := zn) (z := z) hl hq d (i + 1) (((G ++ [Blk.cells false false (xGI (mvR num (rl.getD i r0)))]).set k Blk.dead ++ [Blk.cells false false (rls (w ++ [mvR num (rl.getD i r0)]))]).set p (Blk.cells false false [c0,c1,c2,c3,.own false (G.length + 1) 0 (w.length + 1) 5])) (.own false (G.length + 1) 0 (w.length + 1) 5) (w ++ [mvR num (rl.getD i r0)]) (by omega) (by simp; omega)
     ⟨by rw [List.getElem?_set_ne (by omega)]; exact xAu (by rw [List.getElem?_set_ne (by omega)]; exact a1 _),fun j hj => by
      rw [List.getElem?_set_ne (by omega),List.getElem?_append_left (by simp; omega),List.getElem?_set_ne (by omega),List.getElem?_append_left (by omega)]; exact hI.kp j hj,by rw [List.getElem?_set_self (by simp; omega)],.inr ⟨G.length + 1,by omega,by simp,by rw [List.getElem?_set_ne (by omega)]; simp⟩⟩
    refine ⟨G',rv',?_,by simpa using e2⟩
    simp only [xGI,mvR,xNi] at e1 hsn
    rw [xUl]
    have a4 : ∀ X Y : Heap,((G ++ X).set k Blk.dead ++ Y)[p]? = some (.cells false false [c0,c1,c2,c3,rv]) := fun X Y => xAu (by rw [List.getElem?_set_ne (by omega)]; exact a3 X)
    simp only [hrv] at a3 a4 ⊢
    simp (maxSteps := 30000000) (disch := first | assumption | omega | (simp only [WL,AV.isCell,xAb,xAa] <;> omega) | rfl | decide) only [xPg,WB,hlt,↓reduceIte,xCF,AV.cells,AV.isCell,Nat.reduceAdd,a1,W2,xAm,xMQ,b1,Nat.reduceLeDiff,xSs,xLg,xLf,c,a3,Nat.reduceMul,hk',Nat.reduceBEq,htk,hsn,a4,xKD,e1]
  ·rw [if_neg c]
   obtain ⟨G',rv',e1,e2⟩ := xJV (G0 := G0) hp (zn := zn) (z := z) hl hq d (i + 1) (G ++ [Blk.cells false false (xGI (mvR num (rl.getD i r0)))]) rv w (by omega) (by omega) ⟨a1 _,fun j hj => by
      rw [List.getElem?_append_left (by omega)]; exact hI.kp j hj,a3 _,by
      rcases hI.own with ⟨h1,h2⟩ | ⟨k,k0,h1,h2⟩
      ·exact .inl ⟨h1,h2⟩
      ·exact .inr ⟨k,k0,h1,xAu h2⟩⟩
   refine ⟨G',rv',?_,e2⟩
   simp only [xGI,mvR,xNi] at e1
   rw [xUl]
   simp (maxSteps := 30000000) (disch := first | assumption | omega | (simp only [WL,AV.isCell,xAb,xAa] <;> omega) | rfl | decide) only [xPg,WB,hlt,↓reduceIte,xCF,AV.cells,AV.isCell,Nat.reduceAdd,a1,W2,xAm,xMQ,b1,Nat.reduceLeDiff,xSs,xLg,xLf,c,xKD,e1]
theorem xNd {G : Heap} {k : Nat} {l : List Int} (h : G[k]? = some (.cells false false (xD8 l))) : OwF G (.own false k 0 l.length 1) 1 l.length (xD8 l) := .inr ⟨k,rfl,h,by rw [xAf]; omega⟩
theorem xLk {G : Heap} {l : List Int} (h : l = []) : OwF G (.sl true 0 []) 1 l.length (xD8 l) := .inl ⟨rfl,by rw [h]; rfl,by rw [h]; rfl⟩
theorem xVf {G : Heap} {k : Nat} {l : List Rl} (h : G[k]? = some (.cells false false (rls l))) : OwF G (.own false k 0 l.length 5) 5 l.length (rls l) := .inr ⟨k,rfl,h,by rw [xAa]⟩
theorem xQx {G : Heap} {l : List Rl} (h : l = []) : OwF G (.sl true 0 []) 5 l.length (rls l) := .inl ⟨rfl,by rw [h]; rfl,by rw [h]; rfl⟩
set_option maxRecDepth 20000 in
set_option maxHeartbeats 8000000 in
theorem xSV (n : Aut) (zn : Bool) (num : List Int) (h1 : n.st.length < 1099511627776) (h2 : n.fi.length < 1099511627776) (h3 : n.rl.length < 1099511627776)
  (q1 : ∀ q ∈ n.st,0 ≤ q ∧ q < (num.length : Nat)) (q2 : ∀ q ∈ n.fi,0 ≤ q ∧ q < (num.length : Nat)) (q3 : ∀ u ∈ n.rl,(0 ≤ u.l ∧ u.l < (num.length : Nat)) ∧ (0 ≤ u.r ∧ u.r < (num.length : Nat)) ∧ (0 ≤ u.t ∧ u.t < (num.length : Nat))) :
  ∃ v G,L.icall (.func 58 []) [n.av,iw zn num] [] = some (v,G) ∧ OwA G v n.vars 0 (xNs num n.st) (xNs num n.fi) (xVW num n.rl) := by
 obtain ⟨v1,B1,g1,k1⟩ := xZf num zn n.z1 n.st h1 q1
 obtain ⟨v2,B2,g2,k2⟩ := xZf num zn n.z2 n.fi h2 q2
 have lp := fun (p : Nat) (hp : 2 < p) (v1 v2 : AV) (G0 : Heap) (i1 : G0[1]? = some (.cells true false [iw zn num])) (i2 : G0[p]? = some (.cells false false [.int .i64 n.vars,.int .i64 0,v1,v2,.sl true 0 []])) =>
  xJV (G0 := G0) hp (zn := zn) (z := n.z3) (c0 := .int .i64 n.vars) (c1 := .int .i64 0) (c2 := v1) (c3 := v2) h3 q3 n.rl.length 0 G0 (.sl true 0 []) [] (by omega) (by simp) ⟨i1,fun _ _ => rfl,i2,.inl ⟨rfl,rfl⟩⟩
 simp only [Int.natCast_zero,List.drop_zero,List.nil_append] at lp
 generalize hL1 : xNs num n.st = l1 at *
 generalize hL2 : xNs num n.fi = l2 at *
 generalize xVW num n.rl = w at *
 rcases k1 with ⟨rfl,rfl,n1⟩ | ⟨rfl,rfl⟩ <;> rcases k2 with ⟨rfl,rfl,n2⟩ | ⟨rfl,rfl⟩
 ·obtain ⟨G',rv',e1,e2⟩ := lp 3 (by decide) (.sl true 0 []) (.sl true 0 []) [.cells false false n.cells,.cells true false [iw zn num],.cells false false [.int .i64 0,.int .i64 0,.sl true 0 [],.sl true 0 [],.sl true 0 []],.cells false false [.int .i64 n.vars,.int .i64 0,.sl true 0 [],.sl true 0 [],.sl true 0 []]] rfl rfl
  have gz : G'[2]? = some (.cells false false [.int .i64 0,.int .i64 0,.sl true 0 [],.sl true 0 [],.sl true 0 []]) := e2.kp 2 (by decide)
  have gp := e2.g3
  have g2s : ∀ b : Blk,(G'.set 2 b)[2]? = some b := fun b => List.getElem?_set_self (List.getElem?_eq_some_iff.1 gz).1
  clear lp
  have X : ∀ (j : Nat),2 < j → j < 3 → ∀ {x b : Blk},([.cells false false n.cells,.cells true false [iw zn num],.cells false false [.int .i64 0,.int .i64 0,.sl true 0 [],.sl true 0 [],.sl true 0 []],.cells false false [.int .i64 n.vars,.int .i64 0,.sl true 0 [],.sl true 0 [],.sl true 0 []]] : Heap)[j]? = some x → (G'.set 2 b)[j]? = some x := fun j j2 j3 x b hx => by rw [List.getElem?_set_ne (by omega),e2.kp j j3]; exact hx
  rcases e2.own with ⟨hr,hw⟩ | ⟨k,k3,hr,hk⟩
  ·rw [hr] at gp
   refine ⟨.agg [.int .i64 n.vars,.int .i64 0,.sl true 0 [],.sl true 0 [],.sl true 0 []],G'.set 2 (.cells false false [.int .i64 n.vars,.int .i64 0,.sl true 0 [],.sl true 0 [],.sl true 0 []]),?_,_,_,_,rfl,xLk n1,xLk n2,xQx hw⟩
   ·rw [yAv,a58,xAp]
    simp (maxSteps := 30000000) (disch := first | assumption | omega | (simp only [WL,AV.isCell,xAb,xAa] <;> omega) | rfl | decide) only [WB,Nat.reduceAdd,Nat.reduceSub,AV.cells,AV.isCell,↓reduceIte,xI2,xI1,Nat.reduceEqDiff,xGg,WP,xGr,xHV,xGO,xEb,xJe,xI3,xJS,g1,xCY,xD9,xCJ,xJ4,xJ3,xJD,xJB,g2,xHx,Nat.reduceLeDiff,xKD,e1,gp,gz,g2s]
  ·rw [hr] at gp
   refine ⟨.agg [.int .i64 n.vars,.int .i64 0,.sl true 0 [],.sl true 0 [],.own false k 0 w.length 5],G'.set 2 (.cells false false [.int .i64 n.vars,.int .i64 0,.sl true 0 [],.sl true 0 [],.own false k 0 w.length 5]),?_,_,_,_,rfl,xLk n1,xLk n2,xVf (by rw [List.getElem?_set_ne (by omega)]; exact hk)⟩
   ·rw [yAv,a58,xAp]
    simp (maxSteps := 30000000) (disch := first | assumption | omega | (simp only [WL,AV.isCell,xAb,xAa] <;> omega) | rfl | decide) only [WB,Nat.reduceAdd,Nat.reduceSub,AV.cells,AV.isCell,↓reduceIte,xI2,xI1,Nat.reduceEqDiff,xGg,WP,xGr,xHV,xGO,xEb,xJe,xI3,xJS,g1,xCY,xD9,xCJ,xJ4,xJ3,xJD,xJB,g2,xHx,Nat.reduceLeDiff,xKD,e1,gp,gz,g2s]
 ·obtain ⟨G',rv',e1,e2⟩ := lp 4 (by decide) (.sl true 0 []) (.own false 3 0 l2.length 1) [.cells false false n.cells,.cells true false [iw zn num],.cells false false [.int .i64 0,.int .i64 0,.sl true 0 [],.sl true 0 [],.sl true 0 []],.cells false false (xD8 l2),.cells false false [.int .i64 n.vars,.int .i64 0,.sl true 0 [],.own false 3 0 l2.length 1,.sl true 0 []]] rfl rfl
  have gz : G'[2]? = some (.cells false false [.int .i64 0,.int .i64 0,.sl true 0 [],.sl true 0 [],.sl true 0 []]) := e2.kp 2 (by decide)
  have gp := e2.g3
  have g2s : ∀ b : Blk,(G'.set 2 b)[2]? = some b := fun b => List.getElem?_set_self (List.getElem?_eq_some_iff.1 gz).1
  clear lp
  have X : ∀ (j : Nat),2 < j → j < 4 → ∀ {x b : Blk},([.cells false false n.cells,.cells true false [iw zn num],.cells false false [.int .i64 0,.int .i64 0,.sl true 0 [],.sl true 0 [],.sl true 0 []],.cells false false (xD8 l2),.cells false false [.int .i64 n.vars,.int .i64 0,.sl true 0 [],.own false 3 0 l2.length 1,.sl true 0 []]] : Heap)[j]? = some x → (G'.set 2 b)[j]? = some x := fun j j2 j3 x b hx => by rw [List.getElem?_set_ne (by omega),e2.kp j j3]; exact hx
  rcases e2.own with ⟨hr,hw⟩ | ⟨k,k3,hr,hk⟩
  ·rw [hr] at gp
   refine ⟨.agg [.int .i64 n.vars,.int .i64 0,.sl true 0 [],.own false 3 0 l2.length 1,.sl true 0 []],G'.set 2 (.cells false false [.int .i64 n.vars,.int .i64 0,.sl true 0 [],.own false 3 0 l2.length 1,.sl true 0 []]),?_,_,_,_,rfl,xLk n1,xNd (X 3 (by decide) (by decide) rfl),xQx hw⟩
   ·rw [yAv,a58,xAp]
    simp (maxSteps := 30000000) (disch := first | assumption | omega | (simp only [WL,AV.isCell,xAb,xAa] <;> omega) | rfl | decide) only [WB,Nat.reduceAdd,Nat.reduceSub,AV.cells,AV.isCell,↓reduceIte,xI2,xI1,Nat.reduceEqDiff,xGg,WP,xGr,xHV,xGO,xEb,xJe,xI3,xJS,g1,xCY,xD9,xCJ,xJ4,xJ3,xJD,xJB,g2,xGK,xHx,Nat.reduceLeDiff,xKD,e1,gp,gz,g2s]
  ·rw [hr] at gp
   refine ⟨.agg [.int .i64 n.vars,.int .i64 0,.sl true 0 [],.own false 3 0 l2.length 1,.own false k 0 w.length 5],G'.set 2 (.cells false false [.int .i64 n.vars,.int .i64 0,.sl true 0 [],.own false 3 0 l2.length 1,.own false k 0 w.length 5]),?_,_,_,_,rfl,xLk n1,xNd (X 3 (by decide) (by decide) rfl),xVf (by rw [List.getElem?_set_ne (by omega)]; exact hk)⟩
   ·rw [yAv,a58,xAp]
    simp (maxSteps := 30000000) (disch := first | assumption | omega | (simp only [WL,AV.isCell,xAb,xAa] <;> omega) | rfl | decide) only [WB,Nat.reduceAdd,Nat.reduceSub,AV.cells,AV.isCell,↓reduceIte,xI2,xI1,Nat.reduceEqDiff,xGg,WP,xGr,xHV,xGO,xEb,xJe,xI3,xJS,g1,xCY,xD9,xCJ,xJ4,xJ3,xJD,xJB,g2,xGK,xHx,Nat.reduceLeDiff,xKD,e1,gp,gz,g2s]
 ·obtain ⟨G',rv',e1,e2⟩ := lp 4 (by decide) (.own false 3 0 l1.length 1) (.sl true 0 []) [.cells false false n.cells,.cells true false [iw zn num],.cells false false [.int .i64 0,.int .i64 0,.sl true 0 [],.sl true 0 [],.sl true 0 []],.cells false false (xD8 l1),.cells false false [.int .i64 n.vars,.int .i64 0,.own false 3 0 l1.length 1,.sl true 0 [],.sl true 0 []]] rfl rfl
  have gz : G'[2]? = some (.cells false false [.int .i64 0,.int .i64 0,.sl true 0 [],.sl true 0 [],.sl true 0 []]) := e2.kp 2 (by decide)
  have gp := e2.g3
  have g2s : ∀ b : Blk,(G'.set 2 b)[2]? = some b := fun b => List.getElem?_set_self (List.getElem?_eq_some_iff.1 gz).1
  clear lp
  have X : ∀ (j : Nat),2 < j → j < 4 → ∀ {x b : Blk},([.cells false false n.cells,.cells true false [iw zn num],.cells false false [.int .i64 0,.int .i64 0,.sl true 0 [],.sl true 0 [],.sl true 0 []],.cells false false (xD8 l1),.cells false false [.int .i64 n.vars,.int .i64 0,.own false 3 0 l1.length 1,.sl true 0 [],.sl true 0 []]] : Heap)[j]? = some x → (G'.set 2 b)[j]? = some x := fun j j2 j3 x b hx => by rw [List.getElem?_set_ne (by omega),e2.kp j j3]; exact hx
  rcases e2.own with ⟨hr,hw⟩ | ⟨k,k3,hr,hk⟩
  ·rw [hr] at gp
   refine ⟨.agg [.int .i64 n.vars,.int .i64 0,.own false 3 0 l1.length 1,.sl true 0 [],.sl true 0 []],G'.set 2 (.cells false false [.int .i64 n.vars,.int .i64 0,.own false 3 0 l1.length 1,.sl true 0 [],.sl true 0 []]),?_,_,_,_,rfl,xNd (X 3 (by decide) (by decide) rfl),xLk n2,xQx hw⟩
   ·rw [yAv,a58,xAp]
    simp (maxSteps := 30000000) (disch := first | assumption | omega | (simp only [WL,AV.isCell,xAb,xAa] <;> omega) | rfl | decide) only [WB,Nat.reduceAdd,Nat.reduceSub,AV.cells,AV.isCell,↓reduceIte,xI2,xI1,Nat.reduceEqDiff,xGg,WP,xGr,xHV,xGO,xEb,xJe,xI3,xJS,g1,xCY,xD9,xCJ,xJ4,xJ3,xJD,xGK,g2,xJB,xHx,Nat.reduceLeDiff,xKD,e1,gp,gz,g2s]
  ·rw [hr] at gp
   refine ⟨.agg [.int .i64 n.vars,.int .i64 0,.own false 3 0 l1.length 1,.sl true 0 [],.own false k 0 w.length 5],G'.set 2 (.cells false false [.int .i64 n.vars,.int .i64 0,.own false 3 0 l1.length 1,.sl true 0 [],.own false k 0 w.length 5]),?_,_,_,_,rfl,xNd (X 3 (by decide) (by decide) rfl),xLk n2,xVf (by rw [List.getElem?_set_ne (by omega)]; exact hk)⟩
   ·rw [yAv,a58,xAp]
    simp (maxSteps := 30000000) (disch := first | assumption | omega | (simp only [WL,AV.isCell,xAb,xAa] <;> omega) | rfl | decide) only [WB,Nat.reduceAdd,Nat.reduceSub,AV.cells,AV.isCell,↓reduceIte,xI2,xI1,Nat.reduceEqDiff,xGg,WP,xGr,xHV,xGO,xEb,xJe,xI3,xJS,g1,xCY,xD9,xCJ,xJ4,xJ3,xJD,xGK,g2,xJB,xHx,Nat.reduceLeDiff,xKD,e1,gp,gz,g2s]
 ·obtain ⟨G',rv',e1,e2⟩ := lp 5 (by decide) (.own false 3 0 l1.length 1) (.own false 4 0 l2.length 1) [.cells false false n.cells,.cells true false [iw zn num],.cells false false [.int .i64 0,.int .i64 0,.sl true 0 [],.sl true 0 [],.sl true 0 []],.cells false false (xD8 l1),.cells false false (xD8 l2),.cells false false [.int .i64 n.vars,.int .i64 0,.own false 3 0 l1.length 1,.own false 4 0 l2.length 1,.sl true 0 []]] rfl rfl
  have gz : G'[2]? = some (.cells false false [.int .i64 0,.int .i64 0,.sl true 0 [],.sl true 0 [],.sl true 0 []]) := e2.kp 2 (by decide)
  have gp := e2.g3
  have g2s : ∀ b : Blk,(G'.set 2 b)[2]? = some b := fun b => List.getElem?_set_self (List.getElem?_eq_some_iff.1 gz).1
  clear lp
  have X : ∀ (j : Nat),2 < j → j < 5 → ∀ {x b : Blk},([.cells false false n.cells,.cells true false [iw zn num],.cells false false [.int .i64 0,.int .i64 0,.sl true 0 [],.sl true 0 [],.sl true 0 []],.cells false false (xD8 l1),.cells false false (xD8 l2),.cells false false [.int .i64 n.vars,.int .i64 0,.own false 3 0 l1.length 1,.own false 4 0 l2.length 1,.sl true 0 []]] : Heap)[j]? = some x → (G'.set 2 b)[j]? = some x := fun j j2 j3 x b hx => by rw [List.getElem?_set_ne (by omega),e2.kp j j3]; exact hx
  rcases e2.own with ⟨hr,hw⟩ | ⟨k,k3,hr,hk⟩
  ·rw [hr] at gp
   refine ⟨.agg [.int .i64 n.vars,.int .i64 0,.own false 3 0 l1.length 1,.own false 4 0 l2.length 1,.sl true 0 []],G'.set 2 (.cells false false [.int .i64 n.vars,.int .i64 0,.own false 3 0 l1.length 1,.own false 4 0 l2.length 1,.sl true 0 []]),?_,_,_,_,rfl,xNd (X 3 (by decide) (by decide) rfl),xNd (X 4 (by decide) (by decide) rfl),xQx hw⟩
   ·rw [yAv,a58,xAp]
    simp (maxSteps := 30000000) (disch := first | assumption | omega | (simp only [WL,AV.isCell,xAb,xAa] <;> omega) | rfl | decide) only [WB,Nat.reduceAdd,Nat.reduceSub,AV.cells,AV.isCell,↓reduceIte,xI2,xI1,Nat.reduceEqDiff,xGg,WP,xGr,xHV,xGO,xEb,xJe,xI3,xJS,g1,xCY,xD9,xCJ,xJ4,xJ3,xJD,xGK,g2,xHx,Nat.reduceLeDiff,xKD,e1,gp,gz,g2s]
  ·rw [hr] at gp
   refine ⟨.agg [.int .i64 n.vars,.int .i64 0,.own false 3 0 l1.length 1,.own false 4 0 l2.length 1,.own false k 0 w.length 5],G'.set 2 (.cells false false [.int .i64 n.vars,.int .i64 0,.own false 3 0 l1.length 1,.own false 4 0 l2.length 1,.own false k 0 w.length 5]),?_,_,_,_,rfl,xNd (X 3 (by decide) (by decide) rfl),xNd (X 4 (by decide) (by decide) rfl),xVf (by rw [List.getElem?_set_ne (by omega)]; exact hk)⟩
   ·rw [yAv,a58,xAp]
    simp (maxSteps := 30000000) (disch := first | assumption | omega | (simp only [WL,AV.isCell,xAb,xAa] <;> omega) | rfl | decide) only [WB,Nat.reduceAdd,Nat.reduceSub,AV.cells,AV.isCell,↓reduceIte,xI2,xI1,Nat.reduceEqDiff,xGg,WP,xGr,xHV,xGO,xEb,xJe,xI3,xJS,g1,xCY,xD9,xCJ,xJ4,xJ3,xJD,xGK,g2,xHx,Nat.reduceLeDiff,xKD,e1,gp,gz,g2s]
abbrev zV : AV := .agg [.int .i64 0,.int .i64 0,.sl true 0 [],.sl true 0 [],.sl true 0 []]
abbrev zB : Blk := .cells false false [.int .i64 0,.int .i64 0,.sl true 0 [],.sl true 0 [],.sl true 0 []]
theorem xZg (k : Nat) (vs : List AV) : xCY k (.agg vs) = .agg (vs.map (xCJ k)) := rfl
def Plain (cs : List AV) : Prop := ∀ c ∈ cs,∃ k n,c = AV.int k n
theorem Plain.rel {cs : List AV} (h : Plain cs) : cs.all xJD = true := by
 rw [List.all_eq_true]; intro a ha; obtain ⟨k,n,rfl⟩ := h a ha; rfl
theorem Plain.map {cs : List AV} (h : Plain cs) (L : Nat) : cs.map (xCJ L) = cs := by
 refine (List.map_congr_left fun a ha => ?_).trans (List.map_id _)
 obtain ⟨k,n,rfl⟩ := h a ha; rfl
theorem xLy (l : List Int) : Plain (xD8 l) := fun a ha => by obtain ⟨x,_,rfl⟩ := List.mem_map.1 ha; exact ⟨_,_,rfl⟩
theorem xOD : ∀ (l : List Rl),Plain (rls l)
 | [] => fun a ha => nomatch ha
 | e :: l => fun a ha => by
  have : rls (e :: l) = xGI e ++ rls l := rfl
  rw [this] at ha
  rcases List.mem_append.1 ha with h | h
  ·simp only [xGI,List.mem_cons,List.not_mem_nil,or_false] at h
   rcases h with rfl | rfl | rfl | rfl | rfl <;> exact ⟨_,_,rfl⟩
  ·exact xOD l a h
theorem xTK {L : Nat} {fz z : Bool} {cs : List AV} (h : Plain cs) : xI0 L (.cells fz z cs) = .cells fz z cs := by
 simp only [xI0,h.rel,if_true,h.map]
theorem OwF.cell {G : Heap} {v : AV} {w n : Nat} {cs : List AV} (h : OwF G v w n cs) : v.isCell = true := by
 rcases h with ⟨rfl,_⟩ | ⟨k,rfl,_⟩ <;> rfl
theorem xOE {v : AV} (k : Nat) (h : v.isCell = true) : (xCJ k v).isCell = true := by
 cases v <;> first | rfl | cases h
theorem OwF.rel {G : Heap} {v : AV} {w n : Nat} {cs : List AV} (h : OwF G v w n cs) : xJD v = true := by
 rcases h with ⟨rfl,_⟩ | ⟨k,rfl,_⟩ <;> rfl
theorem OwF.lift3 {B G : Heap} {v : AV} {w n : Nat} {cs : List AV} {q : Nat} (h : OwF B v w n cs) (hp : Plain cs) (hG : ∀ (k : Nat) (x : Blk),k < B.length → (B.map (xI0 q))[k]? = some x → G[q + k]? = some x) : OwF G (xCJ q v) w n cs := by
 rcases h with ⟨rfl,h1,h2⟩ | ⟨k,rfl,hg,hl⟩
 ·exact .inl ⟨rfl,h1,h2⟩
 ·refine .inr ⟨q + k,rfl,hG k _ (List.getElem?_eq_some_iff.1 hg).1 ?_,hl⟩
  rw [List.getElem?_map,hg]
  show some (xI0 q (.cells false false cs)) = _
  rw [xTK hp]
set_option maxRecDepth 20000 in
set_option maxHeartbeats 4000000 in
theorem xZh {nv : Int} {s : Nat} {y1 y2 y3 : Bool} {nst nfi : List Int} {nrl : List Rl} {w : Nat} {r : Nat} {nums0 : List Int} {f1 f2 f3 x1 x2 x3 : AV} {B Bl G1 G2 G3 G4 : Heap}
  (h1 : L.pcall 14 [.agg [.int .i64 nv,.int .i64 (s : Nat),iw y1 nst,iw y2 nfi,.sl y3 nrl.length (rls nrl)]] = some (.int .i64 0))
  (hs64 : s ≤ 64) (u1 : L.pcall 57 [.agg [.int .i64 nv,.int .i64 (s : Nat),iw y1 nst,iw y2 nfi,.sl y3 nrl.length (rls nrl)]] = some (.int .u64 (w : Nat)))
  (hn : L.loop xO3 xXb ⟨xNX (.ptr 0 0) (.ptr 1 0) (.int .u64 (w : Nat)) (.own false 2 0 s 1) (.int .i64 0) (.int .i64 (s : Nat)) (.int .i64 0),[.cells false false [.int .i64 nv,.int .i64 (s : Nat),iw y1 nst,iw y2 nfi,.sl y3 nrl.length (rls nrl)],zB,.cells false false (xJG (List.replicate s 0))]⟩ =
   some (.exit 0,⟨xNX (.ptr 0 0) (.ptr 1 0) (.int .u64 (w : Nat)) (.own false 2 0 s 1) (.int .i64 (r : Nat)) (.int .i64 (s : Nat)) (.int .i64 (s : Nat)),[.cells false false [.int .i64 nv,.int .i64 (s : Nat),iw y1 nst,iw y2 nfi,.sl y3 nrl.length (rls nrl)],zB,.cells false false (xD8 nums0)]⟩))
  (nl : nums0.length = s) (htk : List.take s nums0 = nums0)
  (h58 : xJi L 58 [.agg [.int .i64 nv,.int .i64 (s : Nat),iw y1 nst,iw y2 nfi,.sl y3 nrl.length (rls nrl)],.sl false s (xD8 nums0)] = some (.agg [.int .i64 nv,.int .i64 0,f1,f2,f3],B))
  (g1 : xCJ 3 f1 = x1) (g2 : xCJ 3 f2 = x2) (g3 : xCJ 3 f3 = x3) (hl : B.map (xI0 3) = Bl)
  (e1 : .cells false false [.int .i64 nv,.int .i64 (s : Nat),iw y1 nst,iw y2 nfi,.sl y3 nrl.length (rls nrl)] :: zB :: .cells true false (xD8 nums0) :: Bl = G1)
  (e2 : G1 ++ [Blk.cells false false [.int .i64 nv,.int .i64 0,x1,x2,x3]] = G2)
  (z2 : G2[G1.length]? = some (Blk.cells false false [.int .i64 nv,.int .i64 0,x1,x2,x3]))
  (e3 : G2.set G1.length (Blk.cells false false [.int .i64 nv,.int .i64 (r : Nat),x1,x2,x3]) = G3)
  (z3 : G3[G1.length]? = some (Blk.cells false false [.int .i64 nv,.int .i64 (r : Nat),x1,x2,x3])) (z1 : G3[1]? = some zB)
  (j1 : ([AV.int .i64 nv,.int .i64 0,x1,x2,x3]).all AV.isCell = true) (j2 : ([AV.int .i64 nv,.int .i64 (r : Nat),x1,x2,x3]).all AV.isCell = true)
  (e4 : G3.set 1 (Blk.cells false false [.int .i64 nv,.int .i64 (r : Nat),x1,x2,x3]) = G4) (z4 : G4[1]? = some (Blk.cells false false [.int .i64 nv,.int .i64 (r : Nat),x1,x2,x3])) :
  L.icall (.func 22 []) [.agg [.int .i64 nv,.int .i64 (s : Nat),iw y1 nst,iw y2 nfi,.sl y3 nrl.length (rls nrl)]] [] = some (.tup [.agg [.int .i64 nv,.int .i64 (r : Nat),x1,x2,x3],.int .i64 0],G4) := by
 rw [yGP,a22,xAp]
 simp (maxSteps := 30000000) (disch := first | assumption | omega | (simp only [WL,AV.isCell,xAb,xAa] <;> omega) | rfl | decide) only [WB,Nat.reduceSub,AV.cells,AV.isCell,↓reduceIte,h1,xE0,xAJ,u1,xDG,Nat.reduceAdd,xT4,hn,xSp,xGz,W2,htk,xDT,xNc,h58,xSq,xZg,xSU,g1,g2,g3,Nat.reduceEqDiff,xGg,hl,e1,e2,z2,e3,z3,z1,e4,z4]
theorem xV9 {n : Aut} {e : Int} (he : e ≠ 0) (h1 : L.pcall 14 [n.av] = some (.int .i64 e)) : ∃ G,L.icall (.func 22 []) [n.av] [] = some (.tup [zV,.int .i64 e],G) := by
 refine ⟨[.cells false false n.cells,zB],?_⟩
 rw [yGP,a22,xAp]
 simp (maxSteps := 30000000) (disch := first | assumption | omega | (simp only [WL,AV.isCell,xAb,xAa] <;> omega) | rfl | decide) only [WB,Nat.reduceSub,AV.cells,AV.isCell,↓reduceIte,h1,xE0,xAJ,he,Nat.reduceAdd]
set_option maxHeartbeats 2000000 in
theorem yEc {n : Aut} (hT : TyA n) (c : xKJ n = 0) : ∃ S w v G,Use n S w ∧ L.icall (.func 22 []) [n.av] [] = some (.tup [v,.int .i64 0],G) ∧
  OwA G v n.vars (rnk (fun j => w.testBit j) n.states.toNat : Nat) (xNs (xMz (fun j => w.testBit j) n.states.toNat) n.st) (xNs (xMz (fun j => w.testBit j) n.states.toNat) n.fi) (xVW (xMz (fun j => w.testBit j) n.states.toNat) n.rl) := by
 have h1 := xJp n hT.st hT.fi hT.rl hT.u8
 have hV := chkE_zero.1 c
 rw [c] at h1
 obtain ⟨S,w,u1,u2⟩ := yAO hT hV
 obtain ⟨s,hs⟩ : ∃ s : Nat,n.states = (s : Nat) := ⟨n.states.toNat,by have := hV.s0; omega⟩
 have hs64 : s ≤ 64 := by have := hV.s64; omega
 have hts : n.states.toNat = s := by omega
 refine ⟨S,w,?_⟩
 rw [hts]
 have nl := xUX (fun j => w.testBit j) s
 have hn := xUY (b0 := .cells false false n.cells) (b1 := zB) hs64 u2.lt s 0 (by omega)
 have hn0 : xD8 (xMz (fun j => w.testBit j) 0 ++ List.replicate s 0) = xJG (List.replicate s 0) := by simp [xMz,xD8,xJG]
 rw [hn0,rnk,Int.natCast_zero] at hn
 obtain ⟨v,B,h58,f1,f2,f3,rfl,o1,o2,o3⟩ := xSV n false (xMz (fun j => w.testBit j) s) hT.st hT.fi hT.rl (by rw [nl]; intro q hq; have := xIM hV.st q hq; omega) (by rw [nl]; intro q hq; have := xIM hV.fi q hq; omega) (by rw [nl]; intro u hu; have := hV.rule u hu; omega)
 have hrel : xJ4 (.agg [.int .i64 n.vars,.int .i64 0,f1,f2,f3]) = true := by
  show ([AV.int .i64 n.vars,.int .i64 0,f1,f2,f3]).all xJD = true
  simp only [List.all_cons,List.all_nil,o1.rel,o2.rel,o3.rel]; rfl
 have h58' := xOh h58 hrel
 unfold iw at h58'
 rw [nl] at h58'
 have htk : List.take s (xMz (fun j => w.testBit j) s) = xMz (fun j => w.testBit j) s := List.take_of_length_le (by omega)
 obtain ⟨nv,ns,y1,nst,y2,nfi,y3,nrl⟩ := n
 have hs' : ns = (s : Nat) := hs
 subst hs'
 obtain ⟨Bl,hl⟩ : ∃ X,B.map (xI0 3) = X := ⟨_,rfl⟩
 obtain ⟨x1,g1⟩ : ∃ X,xCJ 3 f1 = X := ⟨_,rfl⟩
 obtain ⟨x2,g2⟩ : ∃ X,xCJ 3 f2 = X := ⟨_,rfl⟩
 obtain ⟨x3,g3⟩ : ∃ X,xCJ 3 f3 = X := ⟨_,rfl⟩
 have c1 : x1.isCell = true := by rw [← g1]; exact xOE 3 o1.cell
 have c2 : x2.isCell = true := by rw [← g2]; exact xOE 3 o2.cell
 have c3 : x3.isCell = true := by rw [← g3]; exact xOE 3 o3.cell
 obtain ⟨G1,e1⟩ : ∃ X : Heap,.cells false false [.int .i64 nv,.int .i64 (s : Nat),iw y1 nst,iw y2 nfi,.sl y3 nrl.length (rls nrl)] :: zB :: .cells true false (xD8 (xMz (fun j => w.testBit j) s)) :: Bl = X := ⟨_,rfl⟩
 obtain ⟨G2,e2⟩ : ∃ X,G1 ++ [Blk.cells false false [.int .i64 nv,.int .i64 0,x1,x2,x3]] = X := ⟨_,rfl⟩
 obtain ⟨G3,e3⟩ : ∃ X,G2.set G1.length (Blk.cells false false [.int .i64 nv,.int .i64 (rnk (fun j => w.testBit j) s : Nat),x1,x2,x3]) = X := ⟨_,rfl⟩
 obtain ⟨G4,e4⟩ : ∃ X,G3.set 1 (Blk.cells false false [.int .i64 nv,.int .i64 (rnk (fun j => w.testBit j) s : Nat),x1,x2,x3]) = X := ⟨_,rfl⟩
 have len1 : G1.length = 3 + B.length := by rw [← e1,← hl]; simp; omega
 have len2 : G2.length = G1.length + 1 := by rw [← e2]; simp
 have len3 : G3.length = G1.length + 1 := by rw [← e3,List.length_set,len2]
 have z2 : G2[G1.length]? = some (Blk.cells false false [.int .i64 nv,.int .i64 0,x1,x2,x3]) := by rw [← e2]; exact List.getElem?_concat_length
 have z3 : G3[G1.length]? = some (Blk.cells false false [.int .i64 nv,.int .i64 (rnk (fun j => w.testBit j) s : Nat),x1,x2,x3]) := by rw [← e3,List.getElem?_set_self (by omega)]
 have q11 : G1[1]? = some zB := by rw [← e1]; rfl
 have z1 : G3[1]? = some zB := by rw [← e3,List.getElem?_set_ne (by omega),← e2]; exact xAu q11
 have z4 : G4[1]? = some (Blk.cells false false [.int .i64 nv,.int .i64 (rnk (fun j => w.testBit j) s : Nat),x1,x2,x3]) := by rw [← e4,List.getElem?_set_self (by omega)]
 have hG : ∀ (k : Nat) (x : Blk),k < B.length → (B.map (xI0 3))[k]? = some x → G4[3 + k]? = some x := fun k x hk hx => by
  rw [← e4,List.getElem?_set_ne (by omega),← e3,List.getElem?_set_ne (by omega),← e2]
  refine xAu ?_
  rw [← e1,← hl,Nat.add_comm]
  exact hx
 refine ⟨_,G4,u2,xZh h1 hs64 u1 hn nl htk h58' g1 g2 g3 hl e1 e2 z2 e3 z3 z1 ?_ ?_ e4 z4,x1,x2,x3,rfl,?_,?_,?_⟩
 ·simp only [List.all_cons,List.all_nil,c1,c2,c3]; rfl
 ·simp only [List.all_cons,List.all_nil,c1,c2,c3]; rfl
 ·rw [← g1]; exact o1.lift3 (xLy _) hG
 ·rw [← g2]; exact o2.lift3 (xLy _) hG
 ·rw [← g3]; exact o3.lift3 (xOD _) hG
end Go.Abs.Tree
