/- Concat of two; Union. -/
import Derived.Test.YtijmhicopfphnaaDoorAbsBun
import Derived.Test.YtijmhicopfphnaaDoorAMO
import Derived.Test.YtijmhicopfphnaaDoorAMM
import Derived.Test.YtijmhicopfphnaaDoorAR1
namespace Go.Abs.Tree
open Go Go.Abs
set_option linter.unusedSimpArgs false
set_option linter.unusedVariables false
def xQg (sa n : Nat) : List Nat := (List.range n).map (sa + ·)
theorem xQh (sa n : Nat) : (xQg sa n).length = n := by simp [xQg]
theorem xSv {x : Aut} {sa n : Nat} {cy cz b3 b4 : Blk} (hs : x.states = (sa : Nat)) (hsa : sa ≤ 64) (hn : n ≤ 64) : ∀ d i,i + d = n →
  L.loop xRn xZ4 ⟨xRo (.ptr 0 0) (.ptr 1 0) (.ptr 2 0) (.own false 5 0 n 1) (.int .i64 (n : Nat)) (.int .i64 (i : Nat)),[.cells false false x.cells,cy,cz,b3,b4,.cells false false (xJG (xQg sa i ++ List.replicate d 0))]⟩ =
   some (.exit 3,⟨xRo (.ptr 0 0) (.ptr 1 0) (.ptr 2 0) (.own false 5 0 n 1) (.int .i64 (n : Nat)) (.int .i64 (n : Nat)),[.cells false false x.cells,cy,cz,b3,b4,.cells false false (xJG (xQg sa n))]⟩)
 | 0,i,h => by
  obtain rfl : i = n := by omega
  rw [List.replicate_zero,List.append_nil,yBy]
  simp (maxSteps := 30000000) (disch := first | assumption | omega | (simp only [WL,AV.isCell,xAb,xAa] <;> omega) | rfl | decide) only [xUb,WB,↓reduceIte,xXi]
 | d + 1,i,h => by
  have hlt : (i : Int) < (n : Nat) := by omega
  have hl := xQh sa i
  have hll : (xQg sa i ++ List.replicate (d + 1) 0).length = n := by simp [hl]; omega
  have ih := xSv (cy := cy) (cz := cz) (b3 := b3) (b4 := b4) hs hsa hn d (i + 1) (by omega)
  have xGC : (xQg sa i ++ List.replicate (d + 1) 0).set i (sa + i) = xQg sa (i + 1) ++ List.replicate d 0 := by
   rw [List.set_append_right _ _ (by omega),hl,Nat.sub_self,List.replicate_succ,List.set_cons_zero]
   simp [xQg,List.range_succ]
  rw [yBy]
  simp (maxSteps := 30000000) (disch := first | assumption | omega | (simp only [WL,AV.isCell,xAb,xAa] <;> omega) | rfl | decide) only [xUb,WB,hlt,↓reduceIte,hs,AV.cells,xGC,xXi,ih]
def shR (k : Int) (u : Rl) : Rl := ⟨k + u.l,k + u.r,k + u.t,u.p,u.n⟩
theorem xNo {sa n : Nat} {q : Int} (h0 : 0 ≤ q) (h1 : q < (n : Nat)) : xNi ((xQg sa n).map fun (k : Nat) => (k : Int)) q = sa + q := by
 have h : q.toNat < n := by omega
 simp [xNi,xQg,List.getD,List.getElem?_map,List.getElem?_range h]
 omega
theorem xOk {sa n : Nat} : ∀ l : List Int,(∀ q ∈ l,0 ≤ q ∧ q < (n : Nat)) → xNs ((xQg sa n).map fun (k : Nat) => (k : Int)) l = l.map fun q => (sa : Int) + q
 | [],_ => rfl
 | q :: l,h => by
  have hq := h q (by simp)
  rw [xNs,xNo hq.1 hq.2,if_pos (by omega),xOk l (fun q hq => h q (by simp [hq])),List.map_cons]
theorem xSw {sa n : Nat} : ∀ l : List Rl,(∀ u ∈ l,(0 ≤ u.l ∧ u.l < (n : Nat)) ∧ (0 ≤ u.r ∧ u.r < (n : Nat)) ∧ (0 ≤ u.t ∧ u.t < (n : Nat))) → xVW ((xQg sa n).map fun (k : Nat) => (k : Int)) l = l.map (shR sa)
 | [],_ => rfl
 | u :: l,h => by
  obtain ⟨h1,h2,h3⟩ := h u (by simp)
  rw [xVW,mvR,xNo h1.1 h1.2,xNo h2.1 h2.2,xNo h3.1 h3.2,if_pos (by omega),xSw l (fun u hu => h u (by simp [hu])),List.map_cons]
  rfl
abbrev zA : Aut := ⟨0,0,true,[],true,[],true,[]⟩
abbrev yHb (x y : Aut) (z1 z2 z3 : Bool) : Aut := ⟨x.vars,x.states + y.states,z1,x.st ++ y.st.map fun q => x.states + q,z2,x.fi ++ y.fi.map fun q => x.states + q,z3,x.rl ++ y.rl.map (shR x.states)⟩
def xVN (x y : Aut) : Int := if xKJ x = 0 then if xKJ y = 0 then if x.vars = y.vars then if 64 < x.states + y.states ∨ 512 < x.rl.length + y.rl.length then 4 else 0 else 7 else xKJ y else xKJ x
theorem xX1 (l : List Nat) : xJG l = xD8 (l.map fun (k : Nat) => (k : Int)) := by simp [xJG,xD8]
structure InvR (x y : Aut) (G : Heap) (c : List AV) : Prop where
 g0 : G[0]? = some (.cells false false x.cells)
 g1 : G[1]? = some (.cells false false y.cells)
 g3 : G[6]? = some (.cells false false c)
theorem xX2 {x y : Aut} {sa : Nat} {c0 c1 c3 c4 : AV} (hs : x.states = (sa : Nat)) (hsa : sa ≤ 64) (hl : y.st.length < 1099511627776) (hb : ∀ q ∈ y.st,0 ≤ q ∧ q < 64) : ∀ d i G z k w,i + d = y.st.length → w.length < 1099511627776 + i → InvR x y G [c0,c1,.own z k 0 w.length 1,c3,c4] → 2 < k ∧ k ≠ 6 → G[k]? = some (.cells false z (xD8 w)) →
  ∃ G' z' k',L.loop xRp xZ5 ⟨xRq (.ptr 0 0) (.ptr 1 0) (.ptr 2 0) (.ptr 6 0) (.int .i64 (i : Nat)),G⟩ = some (.exit 0,⟨xRq (.ptr 0 0) (.ptr 1 0) (.ptr 2 0) (.ptr 6 0) (.int .i64 (y.st.length : Nat)),G'⟩) ∧
   InvR x y G' [c0,c1,.own z' k' 0 (w ++ (y.st.drop i).map fun q => (sa : Int) + q).length 1,c3,c4] ∧ (2 < k' ∧ k' ≠ 6) ∧ (k' = k ∨ G.length ≤ k') ∧ G'[k']? = some (.cells false z' (xD8 (w ++ (y.st.drop i).map fun q => (sa : Int) + q))) ∧ (∀ b,b < G.length → b ≠ 6 → b ≠ k → G'[b]? = G[b]?) ∧ G.length ≤ G'.length := by
 intro d
 induction d with
 | zero =>
  intro i G z k w h hw hI hk3 hk
  obtain rfl : i = y.st.length := by omega
  have h1 := hI.g1
  refine ⟨G,z,k,?_,by rw [List.drop_length,List.map_nil,List.append_nil]; exact hI,hk3,.inl rfl,by rw [List.drop_length,List.map_nil,List.append_nil]; exact hk,fun _ _ _ _ => rfl,Nat.le_refl _⟩
  rw [yBz]
  simp (maxSteps := 30000000) (disch := first | assumption | omega | (simp only [WL,AV.isCell,xAa] <;> omega) | rfl | decide) only [xUc,WB,h1,↓reduceIte,xXj]
 | succ d IH =>
  intro i G z k w h hw hI hk3 hk
  have hlt : (i : Int) < (y.st.length : Nat) := by omega
  have h0 := hI.g0
  have h1 := hI.g1
  have h3 := hI.g3
  have len3 := (List.getElem?_eq_some_iff.1 h3).1
  have lenk := (List.getElem?_eq_some_iff.1 hk).1
  have hq := hb (y.st.getD i 0) (by
   rw [List.getD_eq_getElem?_getD,List.getElem?_eq_getElem (by omega : i < y.st.length)]
   exact List.getElem_mem _)
  have htk : List.take w.length w = w := List.take_length
  have hsn : xD8 w ++ [AV.int .i64 (y.st.getD i 0 + (sa : Nat))] = xD8 (w ++ [(sa : Int) + y.st.getD i 0]) := by
   rw [Int.add_comm]; exact xOr ..
  have ga : ∀ b X,b ≠ k → b < G.length → (G.set k Blk.dead ++ X)[b]? = G[b]? := fun b X hb hl => by
   rw [List.getElem?_append_left (by rw [List.length_set]; exact hl),List.getElem?_set_ne (fun h => hb h.symm)]
  have g3 : ∀ X,(G.set k Blk.dead ++ X)[6]? = some (.cells false false [c0,c1,.own z k 0 w.length 1,c3,c4]) := fun X => by rw [ga 6 X (by omega) len3]; exact h3
  have xGC : ∀ X b (B : Blk),b ≠ 6 → b ≠ k → b < G.length → ((G.set k Blk.dead ++ X).set 6 B)[b]? = G[b]? := fun X b B n3 nk hl => by
   rw [List.getElem?_set_ne (fun h => n3 h.symm),ga b X nk hl]
  have lenn : ∀ (X : Heap) (B : Blk),((G.set k Blk.dead ++ X).set 6 B).length = G.length + X.length := fun X B => by simp
  obtain ⟨G',z',k',e1,e2,e3,e4,e5,e6,e7⟩ := IH (i + 1) ((G.set k Blk.dead ++ [Blk.cells false false (xD8 (w ++ [(sa : Int) + y.st.getD i 0]))]).set 6 (Blk.cells false false [c0,c1,.own false G.length 0 (w.length + 1) 1,c3,c4])) false G.length (w ++ [(sa : Int) + y.st.getD i 0]) (by omega) (by simp; omega)
   ⟨by rw [xGC _ 0 _ (by omega) (by omega) (by omega)]; exact h0,by rw [xGC _ 1 _ (by omega) (by omega) (by omega)]; exact h1,by
    rw [List.getElem?_set_self (by simp; omega)]; simp⟩ (by omega) (by rw [List.getElem?_set_ne (by omega)]; simp)
  rw [lenn] at e4 e6 e7
  rw [xHA (by omega : i < y.st.length),List.map_cons]
  have eapp : w ++ ((sa : Int) + y.st.getD i 0) :: (y.st.drop (i + 1)).map (fun q => (sa : Int) + q) = w ++ [(sa : Int) + y.st.getD i 0] ++ (y.st.drop (i + 1)).map (fun q => (sa : Int) + q) := by simp
  rw [eapp]
  refine ⟨G',z',k',?_,e2,e3,.inr (by simp only [List.length_cons,List.length_nil] at e4; omega),e5,fun b b1 b2 b3 => ?_,by simp at e7; omega⟩
  ·rw [yBz]
   simp (maxSteps := 30000000) (disch := first | assumption | omega | (simp only [WL,AV.isCell,xAa] <;> omega) | rfl | decide) only [xUc,WB,h1,hlt,↓reduceIte,h3,W2,xAm,h0,hs,AV.cells,AV.isCell,hk,Nat.reduceBEq,htk,hsn,g3,Nat.reduceAdd,xXj,e1]
  ·rw [e6 b (by simp; omega) b2 (by omega),xGC _ b _ b2 b3 b1]
theorem xX3 {x y : Aut} {sa : Nat} {c0 c1 c3 c4 : AV} (hs : x.states = (sa : Nat)) (hsa : sa ≤ 64) (hl : y.fi.length < 1099511627776) (hb : ∀ q ∈ y.fi,0 ≤ q ∧ q < 64) : ∀ d i G z k w,i + d = y.fi.length → w.length < 1099511627776 + i → InvR x y G [c0,c1,c3,.own z k 0 w.length 1,c4] → 2 < k ∧ k ≠ 6 → G[k]? = some (.cells false z (xD8 w)) →
  ∃ G' z' k',L.loop xRr xZ6 ⟨xRs (.ptr 0 0) (.ptr 1 0) (.ptr 2 0) (.ptr 6 0) (.int .i64 (i : Nat)),G⟩ = some (.exit 2,⟨xRs (.ptr 0 0) (.ptr 1 0) (.ptr 2 0) (.ptr 6 0) (.int .i64 (y.fi.length : Nat)),G'⟩) ∧
   InvR x y G' [c0,c1,c3,.own z' k' 0 (w ++ (y.fi.drop i).map fun q => (sa : Int) + q).length 1,c4] ∧ (2 < k' ∧ k' ≠ 6) ∧ (k' = k ∨ G.length ≤ k') ∧ G'[k']? = some (.cells false z' (xD8 (w ++ (y.fi.drop i).map fun q => (sa : Int) + q))) ∧ (∀ b,b < G.length → b ≠ 6 → b ≠ k → G'[b]? = G[b]?) ∧ G.length ≤ G'.length := by
 intro d
 induction d with
 | zero =>
  intro i G z k w h hw hI hk3 hk
  obtain rfl : i = y.fi.length := by omega
  have h1 := hI.g1
  refine ⟨G,z,k,?_,by rw [List.drop_length,List.map_nil,List.append_nil]; exact hI,hk3,.inl rfl,by rw [List.drop_length,List.map_nil,List.append_nil]; exact hk,fun _ _ _ _ => rfl,Nat.le_refl _⟩
  rw [yBA]
  simp (maxSteps := 30000000) (disch := first | assumption | omega | (simp only [WL,AV.isCell,xAa] <;> omega) | rfl | decide) only [xUd,WB,h1,↓reduceIte,xXk]
 | succ d IH =>
  intro i G z k w h hw hI hk3 hk
  have hlt : (i : Int) < (y.fi.length : Nat) := by omega
  have h0 := hI.g0
  have h1 := hI.g1
  have h3 := hI.g3
  have len3 := (List.getElem?_eq_some_iff.1 h3).1
  have lenk := (List.getElem?_eq_some_iff.1 hk).1
  have hq := hb (y.fi.getD i 0) (by
   rw [List.getD_eq_getElem?_getD,List.getElem?_eq_getElem (by omega : i < y.fi.length)]
   exact List.getElem_mem _)
  have htk : List.take w.length w = w := List.take_length
  have hsn : xD8 w ++ [AV.int .i64 (y.fi.getD i 0 + (sa : Nat))] = xD8 (w ++ [(sa : Int) + y.fi.getD i 0]) := by
   rw [Int.add_comm]; exact xOr ..
  have ga : ∀ b X,b ≠ k → b < G.length → (G.set k Blk.dead ++ X)[b]? = G[b]? := fun b X hb hl => by
   rw [List.getElem?_append_left (by rw [List.length_set]; exact hl),List.getElem?_set_ne (fun h => hb h.symm)]
  have g3 : ∀ X,(G.set k Blk.dead ++ X)[6]? = some (.cells false false [c0,c1,c3,.own z k 0 w.length 1,c4]) := fun X => by rw [ga 6 X (by omega) len3]; exact h3
  have xGC : ∀ X b (B : Blk),b ≠ 6 → b ≠ k → b < G.length → ((G.set k Blk.dead ++ X).set 6 B)[b]? = G[b]? := fun X b B n3 nk hl => by
   rw [List.getElem?_set_ne (fun h => n3 h.symm),ga b X nk hl]
  have lenn : ∀ (X : Heap) (B : Blk),((G.set k Blk.dead ++ X).set 6 B).length = G.length + X.length := fun X B => by simp
  obtain ⟨G',z',k',e1,e2,e3,e4,e5,e6,e7⟩ := IH (i + 1) ((G.set k Blk.dead ++ [Blk.cells false false (xD8 (w ++ [(sa : Int) + y.fi.getD i 0]))]).set 6 (Blk.cells false false [c0,c1,c3,.own false G.length 0 (w.length + 1) 1,c4])) false G.length (w ++ [(sa : Int) + y.fi.getD i 0]) (by omega) (by simp; omega)
   ⟨by rw [xGC _ 0 _ (by omega) (by omega) (by omega)]; exact h0,by rw [xGC _ 1 _ (by omega) (by omega) (by omega)]; exact h1,by
    rw [List.getElem?_set_self (by simp; omega)]; simp⟩ (by omega) (by rw [List.getElem?_set_ne (by omega)]; simp)
  rw [lenn] at e4 e6 e7
  rw [xHA (by omega : i < y.fi.length),List.map_cons]
  have eapp : w ++ ((sa : Int) + y.fi.getD i 0) :: (y.fi.drop (i + 1)).map (fun q => (sa : Int) + q) = w ++ [(sa : Int) + y.fi.getD i 0] ++ (y.fi.drop (i + 1)).map (fun q => (sa : Int) + q) := by simp
  rw [eapp]
  refine ⟨G',z',k',?_,e2,e3,.inr (by simp only [List.length_cons,List.length_nil] at e4; omega),e5,fun b b1 b2 b3 => ?_,by simp at e7; omega⟩
  ·rw [yBA]
   simp (maxSteps := 30000000) (disch := first | assumption | omega | (simp only [WL,AV.isCell,xAa] <;> omega) | rfl | decide) only [xUd,WB,h1,hlt,↓reduceIte,h3,W2,xAm,h0,hs,AV.cells,AV.isCell,hk,Nat.reduceBEq,htk,hsn,g3,Nat.reduceAdd,xXk,e1]
  ·rw [e6 b (by simp; omega) b2 (by omega),xGC _ b _ b2 b3 b1]
set_option maxRecDepth 20000 in
set_option maxHeartbeats 4000000 in
theorem xX4 {x y : Aut} {sa : Nat} {c0 c1 c2 c3 : AV} (hs : x.states = (sa : Nat)) (hsa : sa ≤ 64) (hl : y.rl.length < 1099511627776) (hb : ∀ u ∈ y.rl,(0 ≤ u.l ∧ u.l < 64) ∧ (0 ≤ u.r ∧ u.r < 64) ∧ (0 ≤ u.t ∧ u.t < 64)) : ∀ d i G z k w,i + d = y.rl.length → w.length < 1099511627776 + i → InvR x y G [c0,c1,c2,c3,.own z k 0 w.length 5] → 2 < k ∧ k ≠ 6 → G[k]? = some (.cells false z (rls w)) →
  ∃ G' z' k',L.loop xRt xZ7 ⟨xRu (.ptr 0 0) (.ptr 1 0) (.ptr 2 0) (.ptr 6 0) (.int .i64 (i : Nat)),G⟩ = some (.exit 4,⟨xRu (.ptr 0 0) (.ptr 1 0) (.ptr 2 0) (.ptr 6 0) (.int .i64 (y.rl.length : Nat)),G'⟩) ∧
   InvR x y G' [c0,c1,c2,c3,.own z' k' 0 (w ++ (y.rl.drop i).map (shR sa)).length 5] ∧ (2 < k' ∧ k' ≠ 6) ∧ (k' = k ∨ G.length ≤ k') ∧ G'[k']? = some (.cells false z' (rls (w ++ (y.rl.drop i).map (shR sa)))) ∧ (∀ b,b < G.length → b ≠ 6 → b ≠ k → G'[b]? = G[b]?) ∧ G.length ≤ G'.length := by
 intro d
 induction d with
 | zero =>
  intro i G z k w h hw hI hk3 hk
  obtain rfl : i = y.rl.length := by omega
  have h1 := hI.g1
  refine ⟨G,z,k,?_,by rw [List.drop_length,List.map_nil,List.append_nil]; exact hI,hk3,.inl rfl,by rw [List.drop_length,List.map_nil,List.append_nil]; exact hk,fun _ _ _ _ => rfl,Nat.le_refl _⟩
  rw [yBB]
  simp (maxSteps := 30000000) (disch := first | assumption | omega | (simp only [WL,AV.isCell,xAa] <;> omega) | rfl | decide) only [xUe,WB,h1,↓reduceIte,xXl]
 | succ d IH =>
  intro i G z k w h hw hI hk3 hk
  have hlt : (i : Int) < (y.rl.length : Nat) := by omega
  have len3 := (List.getElem?_eq_some_iff.1 hI.g3).1
  have lenk := (List.getElem?_eq_some_iff.1 hk).1
  have h0 : ∀ X : Heap,(G ++ X)[0]? = some (.cells false false x.cells) := fun X => xAu hI.g0
  have h1 : ∀ X : Heap,(G ++ X)[1]? = some (.cells false false y.cells) := fun X => xAu hI.g1
  have h1' := hI.g1
  have h3 : ∀ X : Heap,(G ++ X)[6]? = some (.cells false false [c0,c1,c2,c3,.own z k 0 w.length 5]) := fun X => xAu hI.g3
  have hk' : ∀ X : Heap,(G ++ X)[k]? = some (.cells false z (rls w)) := fun X => xAu hk
  have hq := hb _ (xIN (by omega : i < y.rl.length))
  have htk : List.take (w.length * 5) (rls w) = rls w := List.take_of_length_le (by rw [xAa]; omega)
  have hsn : rls w ++ [AV.int .i64 ((y.rl.getD i r0).l + (sa : Nat)),.int .i64 ((y.rl.getD i r0).r + (sa : Nat)),.int .i64 ((y.rl.getD i r0).t + (sa : Nat)),.int .u8 ((y.rl.getD i r0).p : Nat),.int .u8 ((y.rl.getD i r0).n : Nat)] = rls (w ++ [shR sa (y.rl.getD i r0)]) := by
   rw [Int.add_comm (y.rl.getD i r0).l,Int.add_comm (y.rl.getD i r0).r,Int.add_comm (y.rl.getD i r0).t]
   exact xKA xGI w [shR sa (y.rl.getD i r0)]
  have g3 : ∀ X Y : Heap,((G ++ X).set k Blk.dead ++ Y)[6]? = some (.cells false false [c0,c1,c2,c3,.own z k 0 w.length 5]) := fun X Y => xAu (by rw [List.getElem?_set_ne (by omega)]; exact h3 X)
  have xGC : ∀ (X Y : Heap) b (B : Blk),b ≠ 6 → b ≠ k → b < G.length → (((G ++ X).set k Blk.dead ++ Y).set 6 B)[b]? = G[b]? := fun X Y b B n3 nk hl => by
   rw [List.getElem?_set_ne (fun h => n3 h.symm),List.getElem?_append_left (by simp; omega),List.getElem?_set_ne (fun h => nk h.symm),List.getElem?_append_left hl]
  have lenn : ∀ (X Y : Heap) (B : Blk),(((G ++ X).set k Blk.dead ++ Y).set 6 B).length = G.length + X.length + Y.length := fun X Y B => by simp
  obtain ⟨G',z',k',e1,e2,e3,e4,e5,e6,e7⟩ := IH (i + 1) (((G ++ [Blk.cells false false (xGI (y.rl.getD i r0))]).set k Blk.dead ++ [Blk.cells false false (rls (w ++ [shR sa (y.rl.getD i r0)]))]).set 6 (Blk.cells false false [c0,c1,c2,c3,.own false (G.length + 1) 0 (w.length + 1) 5])) false (G.length + 1) (w ++ [shR sa (y.rl.getD i r0)]) (by omega) (by simp; omega)
   ⟨by rw [xGC _ _ 0 _ (by omega) (by omega) (by omega)]; exact hI.g0,by rw [xGC _ _ 1 _ (by omega) (by omega) (by omega)]; exact hI.g1,by
    rw [List.getElem?_set_self (by simp; omega)]; simp⟩ (by omega) (by rw [List.getElem?_set_ne (by omega)]; simp)
  rw [lenn] at e4 e6 e7
  simp only [List.length_cons,List.length_nil] at e4 e6 e7
  rw [xHR (by omega : i < y.rl.length),List.map_cons]
  have eapp : w ++ shR sa (y.rl.getD i r0) :: (y.rl.drop (i + 1)).map (shR sa) = w ++ [shR sa (y.rl.getD i r0)] ++ (y.rl.drop (i + 1)).map (shR sa) := by simp
  rw [eapp]
  refine ⟨G',z',k',?_,e2,e3,.inr (by omega),e5,fun b b1 b2 b3 => ?_,by omega⟩
  ·simp only [xGI] at e1
   rw [yBB]
   simp (maxSteps := 30000000) (disch := first | assumption | omega | (simp only [WL,AV.isCell,xAa] <;> omega) | rfl | decide) only [xUe,WB,h1',hlt,↓reduceIte,xCF,AV.cells,AV.isCell,Nat.reduceAdd,h3,h0,hs,Nat.reduceLeDiff,Nat.reduceMul,hk',Nat.reduceBEq,htk,hsn,g3,xXl,e1]
  ·rw [e6 b (by omega) b2 (by omega),xGC _ _ b _ b2 b3 b1]
theorem xUL (n : Aut) (h1 : n.st.length < 1099511627776) (h2 : n.fi.length < 1099511627776) (h3 : n.rl.length < 1099511627776) :
  xCG L 33 [n.av] = some (.agg [.int .i64 n.vars,.int .i64 n.states,.own (n.st.length == 0) 0 0 n.st.length 1,.own (n.fi.length == 0) 1 0 n.fi.length 1,.own (n.rl.length == 0) 2 0 n.rl.length 5],[.cells false (n.st.length == 0) (xD8 n.st),.cells false (n.fi.length == 0) (xD8 n.fi),.cells false (n.rl.length == 0) (rls n.rl)]) := by
 have k4 := xX9 n.z3 n.rl h3
 have k5 := xQi n.z1 n.st h1
 have k6 := xQi n.z2 n.fi h2
 have t1 : List.take n.st.length n.st = n.st := List.take_length
 have t2 : List.take n.fi.length n.fi = n.fi := List.take_length
 have htk : List.take (n.rl.length * 5) (rls n.rl) = rls n.rl := List.take_of_length_le (by rw [xAa]; omega)
 rw [xBI,yHY,a33,xAp]
 simp (maxSteps := 30000000) (disch := first | assumption | omega | (simp only [WL,AV.isCell,xAa] <;> omega) | rfl | decide) only [WB,Nat.reduceSub,AV.cells,AV.isCell,↓reduceIte,WP,xGO,xEb,k5,xCY,xD9,xCJ,xJ4,xJ3,xJD,xGK,k6,k4,xOl,Nat.reduceAdd,Nat.reduceLeDiff,Nat.reduceBEq]
set_option maxRecDepth 20000 in
set_option maxHeartbeats 2000000 in
theorem xVO (x y : Aut) (hx : TyA x) (hy : TyA y) (h : xVN x y ≠ 0) : L.pcall 31 [x.av,y.av] = some (.tup [zA.av,.int .i64 (xVN x y)]) := by
 have c1 := xJd x hx.st hx.fi hx.rl hx.u8
 have c2 := xJd y hy.st hy.fi hy.rl hy.u8
 unfold xVN at h ⊢
 change _ = some (AV.tup [.agg [.int .i64 0,.int .i64 0,.sl true 0 [],.sl true 0 [],.sl true 0 []],_])
 by_cases k1 : xKJ x = 0
 ·rw [if_pos k1] at h ⊢
  by_cases k2 : xKJ y = 0
  ·rw [if_pos k2] at h ⊢
   have hVx := chkE_zero.1 k1
   have hVy := chkE_zero.1 k2
   have s1 := hVx.s0
   have s2 := hVx.s64
   have s3 := hVy.s0
   have s4 := hVy.s64
   have r1 := hVx.rl
   have r2 := hVy.rl
   rw [k1] at c1
   rw [k2] at c2
   by_cases k3 : x.vars = y.vars
   ·rw [if_pos k3] at h ⊢
    have e3 : (x.vars = y.vars) = True := eq_true k3
    have e512 : ((512 : Int) < ((x.rl.length + y.rl.length : Nat) : Int)) = (512 < x.rl.length + y.rl.length) := propext ⟨fun h => by omega,fun h => by omega⟩
    by_cases k4 : 64 < x.states + y.states
    ·rw [if_pos (.inl k4)]
     clear h
     rw [yEk,a31,xAd]
     simp (maxSteps := 30000000) (disch := first | assumption | omega | (simp only [WL,AV.isCell,xAa] <;> omega) | rfl | decide) only [WB,Nat.reduceAdd,Nat.reduceSub,AV.cells,AV.isCell,↓reduceIte,c1,xE0,xAJ,c2,e3,k4]
    ·by_cases k5 : 512 < x.rl.length + y.rl.length
     ·rw [if_pos (.inr k5)]
      clear h
      rw [yEk,a31,xAd]
      simp (maxSteps := 30000000) (disch := first | assumption | omega | (simp only [WL,AV.isCell,xAa] <;> omega) | rfl | decide) only [WB,Nat.reduceAdd,Nat.reduceSub,AV.cells,AV.isCell,↓reduceIte,c1,xE0,xAJ,c2,e3,k4,e512,k5]
     ·rw [if_neg (by omega)] at h
      exact (h rfl).elim
   ·rw [if_neg k3]
    have e3 : (x.vars = y.vars) = False := eq_false k3
    clear h
    rw [yEk,a31,xAd]
    simp (maxSteps := 30000000) (disch := first | assumption | omega | (simp only [WL,AV.isCell,xAa] <;> omega) | rfl | decide) only [WB,Nat.reduceAdd,Nat.reduceSub,AV.cells,AV.isCell,↓reduceIte,c1,xE0,xAJ,c2,e3]
  ·rw [if_neg k2]
   rw [k1] at c1
   clear h
   generalize xKJ y = e at *
   rw [yEk,a31,xAd]
   simp (maxSteps := 30000000) (disch := first | assumption | omega | (simp only [WL,AV.isCell,xAa] <;> omega) | rfl | decide) only [WB,Nat.reduceAdd,Nat.reduceSub,AV.cells,AV.isCell,↓reduceIte,c1,xE0,xAJ,c2,k2]
 ·rw [if_neg k1]
  clear h
  generalize xKJ x = e at *
  rw [yEk,a31,xAd]
  simp (maxSteps := 30000000) (disch := first | assumption | omega | (simp only [WL,AV.isCell,xAa] <;> omega) | rfl | decide) only [WB,Nat.reduceAdd,Nat.reduceSub,AV.cells,AV.isCell,↓reduceIte,c1,xE0,xAJ,k1]
set_option maxRecDepth 20000 in
set_option maxHeartbeats 2000000 in
theorem xX5 (x y : Aut) (hx : TyA x) (hy : TyA y) (h : xVN x y = 0) : ∃ z1 z2 z3,L.pcall 31 [x.av,y.av] = some (.tup [(yHb x y z1 z2 z3).av,.int .i64 0]) := by
 unfold xVN at h
 split at h
 case isFalse => contradiction
 rename_i k1
 split at h
 case isFalse => contradiction
 rename_i k2
 split at h
 case isFalse => omega
 rename_i k3
 split at h
 case isTrue => omega
 rename_i k45
 have k4 : ¬ 64 < x.states + y.states := by omega
 have k5 : ¬ 512 < x.rl.length + y.rl.length := by omega
 have c1 := xJd x hx.st hx.fi hx.rl hx.u8
 have c2 := xJd y hy.st hy.fi hy.rl hy.u8
 rw [k1] at c1
 rw [k2] at c2
 have hVx := chkE_zero.1 k1
 have hVy := chkE_zero.1 k2
 have s1 := hVx.s0
 have s2 := hVx.s64
 have s3 := hVy.s0
 have s4 := hVy.s64
 have r1 := hVx.rl
 have r2 := hVy.rl
 obtain ⟨sa,hsa⟩ : ∃ sa : Nat,x.states = (sa : Nat) := ⟨x.states.toNat,by omega⟩
 have e3 : (x.vars = y.vars) = True := eq_true k3
 have e512 : ((512 : Int) < ((x.rl.length + y.rl.length : Nat) : Int)) = False := eq_false (by omega)
 have hcp := xUL x hx.st hx.fi hx.rl
 have l1 := hx.st
 have l2 := hx.fi
 have l3 := hx.rl
 have l4 := hy.st
 have l5 := hy.fi
 have l6 := hy.rl
 obtain ⟨G1,z1,b1,p1,p2,p3,p4,p5,p6,p7⟩ := xX2 (x := x) (y := y) (sa := sa) (c0 := .int .i64 x.vars) (c1 := .int .i64 (x.states + y.states)) (c3 := .own (x.fi.length == 0) 4 0 x.fi.length 1) (c4 := .own (x.rl.length == 0) 5 0 x.rl.length 5) hsa (by omega) hy.st (fun q hq => by have := xIM hVy.st q hq; omega) y.st.length 0
  [.cells false false x.cells,.cells false false y.cells,.cells false false [.int .i64 0,.int .i64 0,.sl true 0 [],.sl true 0 [],.sl true 0 []],.cells false (x.st.length == 0) (xD8 x.st),.cells false (x.fi.length == 0) (xD8 x.fi),.cells false (x.rl.length == 0) (rls x.rl),.cells false false [.int .i64 x.vars,.int .i64 (x.states + y.states),.own (x.st.length == 0) 3 0 x.st.length 1,.own (x.fi.length == 0) 4 0 x.fi.length 1,.own (x.rl.length == 0) 5 0 x.rl.length 5]]
  (x.st.length == 0) 3 x.st (by omega) (by omega) ⟨rfl,rfl,rfl⟩ (by omega) rfl
 have u2 := p6 2 (by simp) (by omega) (by omega)
 have u4 := p6 4 (by simp) (by omega) (by omega)
 have u5 := p6 5 (by simp) (by omega) (by omega)
 simp only [List.getElem?_cons_succ,List.getElem?_cons_zero,List.length_cons,List.length_nil,List.drop_zero,Int.natCast_zero] at u2 u4 u5 p1 p2 p4 p5 p7
 have lb1 := (List.getElem?_eq_some_iff.1 p5).1
 obtain ⟨G2,z2,b2,q1,q2,q3,q4,q5,q6,q7⟩ := xX3 (x := x) (y := y) (sa := sa) hsa (by omega) hy.fi (fun q hq => by have := xIM hVy.fi q hq; omega) y.fi.length 0 G1 (x.fi.length == 0) 4 x.fi (by omega) (by omega) p2 (by omega) u4
 have v2 := q6 2 (by omega) (by omega) (by omega)
 have v5 := q6 5 (by omega) (by omega) (by omega)
 have vb := q6 b1 lb1 (by omega) (by omega)
 rw [u2] at v2
 rw [u5] at v5
 rw [p5] at vb
 simp only [List.drop_zero,Int.natCast_zero] at q1 q2 q5
 have lb2 := (List.getElem?_eq_some_iff.1 q5).1
 obtain ⟨G3,z3,b3,t1,t2,t3,t4,t5,t6,t7⟩ := xX4 (x := x) (y := y) (sa := sa) hsa (by omega) hy.rl (fun u hu => by have := hVy.rule u hu; omega) y.rl.length 0 G2 (x.rl.length == 0) 5 x.rl (by omega) (by omega) q2 (by omega) v5
 have w2 := t6 2 (by omega) (by omega) (by omega)
 have wb1 := t6 b1 (by omega) (by omega) (by omega)
 have wb2 := t6 b2 lb2 (by omega) (by omega)
 rw [v2] at w2
 rw [vb] at wb1
 rw [q5] at wb2
 simp only [List.drop_zero,Int.natCast_zero] at t1 t2 t5
 have g3 := t2.g3
 have n2 := (List.getElem?_eq_some_iff.1 w2).1
 have s2' : ∀ B : Blk,(G3.set 2 B)[2]? = some B := fun B => List.getElem?_set_self n2
 have nb1 : ∀ B : Blk,(G3.set 2 B)[b1]? = G3[b1]? := fun B => List.getElem?_set_ne (by omega)
 have nb2 : ∀ B : Blk,(G3.set 2 B)[b2]? = G3[b2]? := fun B => List.getElem?_set_ne (by omega)
 have nb3 : ∀ B : Blk,(G3.set 2 B)[b3]? = G3[b3]? := fun B => List.getElem?_set_ne (by omega)
 refine ⟨z1,z2,z3,?_⟩
 have m1 : (x.st ++ y.st.map fun q => (sa : Int) + q).length < 2199023255552 := by rw [List.length_append,List.length_map]; omega
 have m2 : (x.fi ++ y.fi.map fun q => (sa : Int) + q).length < 2199023255552 := by rw [List.length_append,List.length_map]; omega
 have m3 : (x.rl ++ y.rl.map (shR sa)).length < 2199023255552 := by rw [List.length_append,List.length_map]; omega
 unfold yHb
 simp only [Aut.av,Aut.cells,hsa] at c1 c2 hcp p1 q1 t1 g3 k4 ⊢
 generalize x.st ++ y.st.map (fun q => (sa : Int) + q) = S at *
 generalize x.fi ++ y.fi.map (fun q => (sa : Int) + q) = F at *
 generalize x.rl ++ y.rl.map (shR (sa : Int)) = R at *
 have d1 : List.take S.length S = S := List.take_length
 have d2 : List.take F.length F = F := List.take_length
 have d3 : List.take (R.length * 5) (rls R) = rls R := List.take_of_length_le (by rw [xAa]; omega)
 rw [yEk,a31,xAd]
 simp (maxSteps := 30000000) (disch := first | assumption | omega | (simp only [WL,AV.isCell,xAa] <;> omega) | rfl | decide) only [WB,Nat.reduceAdd,Nat.reduceSub,AV.cells,AV.isCell,↓reduceIte,c1,xE0,xAJ,c2,e3,k4,e512,WP,hcp,xCY,xD9,xCJ,xXj,p1,xXk,q1,xXl,t1,g3,w2,s2',xDT,nb1,wb1,W2,d1,nb2,wb2,d2,nb3,t5,d3,xFt]
theorem xTy {z : Bool} {k : Nat} : ∀ d i G l,i + d = l.length → l.length < 1099511627776 → G[k]? = some (.cells false z (xD8 l)) →
  ∃ l',L.loop xN8 xVK ⟨xMi (.own z k 0 l.length 1) (.int .i64 (i : Nat)),G⟩ = some (.exit 0,⟨xMi (.own z k 0 l.length 1) (.int .i64 (l.length : Nat)),G.set k (.cells false z (xD8 l'))⟩) ∧ l'.length = l.length := by
 intro d
 induction d with
 | zero =>
  intro i G l h hl hk
  obtain rfl : i = l.length := by omega
  refine ⟨l,?_,rfl⟩
  have e : G.set k (.cells false z (xD8 l)) = G := by
   obtain ⟨h1,h2⟩ := List.getElem?_eq_some_iff.1 hk
   rw [← h2,List.set_getElem_self]
  rw [e,xPi]
  simp (maxSteps := 30000000) (disch := first | assumption | omega | (simp only [WL,AV.isCell,xAa] <;> omega) | rfl | decide) only [xNa,Int.reduceNeg,WB,↓reduceIte,xMj]
 | succ d IH =>
  intro i G l h hl hk
  have hlt : (i : Int) < (l.length : Nat) := by omega
  have hk1 := (List.getElem?_eq_some_iff.1 hk).1
  obtain ⟨l',e1,e2⟩ := IH (i + 1) (G.set k (.cells false z (xD8 (l.set i (-77))))) (l.set i (-77)) (by simp; omega) (by simpa using hl) (by rw [List.getElem?_set_self hk1])
  rw [List.length_set] at e1 e2
  rw [List.set_set] at e1
  refine ⟨l',?_,e2⟩
  rw [xPi]
  simp (maxSteps := 30000000) (disch := first | assumption | omega | (simp only [WL,AV.isCell,xAa] <;> omega) | rfl | decide) only [xNa,Int.reduceNeg,WB,hlt,↓reduceIte,AV.cells,hk,W2,xMj,e1]
theorem yBZ {z : Bool} {k : Nat} {G : Heap} {l : List Int} (hl : l.length < 1099511627776) (hk : G[k]? = some (.cells false z (xD8 l))) :
  ∃ l' : List Int,L.icall (.func 62 []) [.own z k 0 l.length 1] G = some (.tup [],G.set k (.cells false z (xD8 l'))) ∧ l'.length = l.length := by
 obtain ⟨l',e1,e2⟩ := xTy l.length 0 G l (by omega) hl hk
 refine ⟨l',?_,e2⟩
 simp only [Int.natCast_zero] at e1
 rw [yFS,a62]
 simp (disch := omega) only [WB,Nat.reduceSub,xMj,e1,↓reduceIte]
theorem yDq {l : List Rl} {i : Nat} {e : Rl} (h : i < l.length) : List.take (i * 5) (rls l) ++ (.int .i64 e.l :: .int .i64 e.r :: .int .i64 e.t :: .int .u8 (e.p : Nat) :: .int .u8 (e.n : Nat) :: List.drop (i * 5 + 5) (rls l)) = rls (l.set i e) := by
 have hd : List.drop (i * 5 + 5) (rls l) = rls (l.drop (i + 1)) := by
  unfold rls
  rw [show i * 5 + 5 = (i + 1) * 5 by omega,xLi (enc := xGI) (k := 5) (fun _ => rfl)]
 have ht : List.take (i * 5) (rls l) = rls (l.take i) := by
  unfold rls
  rw [xMt (enc := xGI) (k := 5) (fun _ => rfl)]
 rw [hd,ht,List.set_eq_take_append_cons_drop,if_pos h]
 exact xKA xGI (l.take i) (e :: l.drop (i + 1))
theorem xTz {z : Bool} {k : Nat} : ∀ d i G l,i + d = l.length → l.length < 1099511627776 → G[k]? = some (.cells false z (rls l)) →
  ∃ l',L.loop xN9 xVL ⟨xMk (.own z k 0 l.length 5) (.int .i64 (i : Nat)),G⟩ = some (.exit 0,⟨xMk (.own z k 0 l.length 5) (.int .i64 (l.length : Nat)),G.set k (.cells false z (rls l'))⟩) ∧ l'.length = l.length := by
 intro d
 induction d with
 | zero =>
  intro i G l h hl hk
  obtain rfl : i = l.length := by omega
  refine ⟨l,?_,rfl⟩
  have e : G.set k (.cells false z (rls l)) = G := by
   obtain ⟨h1,h2⟩ := List.getElem?_eq_some_iff.1 hk
   rw [← h2,List.set_getElem_self]
  rw [e,xPj]
  simp (maxSteps := 30000000) (disch := first | assumption | omega | (simp only [WL,AV.isCell,xAa] <;> omega) | rfl | decide) only [xNb,Int.reduceNeg,WB,↓reduceIte,xMl]
 | succ d IH =>
  intro i G l h hl hk
  have hlt : (i : Int) < (l.length : Nat) := by omega
  have hi : i < l.length := by omega
  have hk1 := (List.getElem?_eq_some_iff.1 hk).1
  have hput := yDq (e := ⟨0,0,-7,0,0⟩) hi
  obtain ⟨l',e1,e2⟩ := IH (i + 1) (G.set k (.cells false z (rls (l.set i ⟨0,0,-7,0,0⟩)))) (l.set i ⟨0,0,-7,0,0⟩) (by simp; omega) (by simpa using hl) (by rw [List.getElem?_set_self hk1])
  rw [List.length_set] at e1 e2
  rw [List.set_set] at e1
  refine ⟨l',?_,e2⟩
  simp only [Int.natCast_zero] at hput
  rw [xPj]
  simp (maxSteps := 30000000) (disch := first | assumption | omega | (simp only [WL,AV.isCell,xAa] <;> omega) | rfl | decide) only [xNb,Int.reduceNeg,WB,hlt,↓reduceIte,AV.cells,Nat.reduceAdd,Nat.reduceLeDiff,AV.isCell,hk,hput,xMl,e1]
theorem yEZ {z : Bool} {k : Nat} {G : Heap} {l : List Rl} (hl : l.length < 1099511627776) (hk : G[k]? = some (.cells false z (rls l))) :
  ∃ l' : List Rl,L.icall (.func 63 []) [.own z k 0 l.length 5] G = some (.tup [],G.set k (.cells false z (rls l'))) ∧ l'.length = l.length := by
 obtain ⟨l',e1,e2⟩ := xTz l.length 0 G l (by omega) hl hk
 refine ⟨l',?_,e2⟩
 simp only [Int.natCast_zero] at e1
 rw [yFT,a63]
 simp (disch := omega) only [WB,Nat.reduceSub,xMl,e1,↓reduceIte]
theorem yDr (G : Heap) : L.icall (.func 62 []) [.sl true 0 []] G = some (.tup [],G) := by
 have e : L.loop xN8 xVK ⟨xMi (.sl true 0 []) (.int .i64 0),G⟩ = some (.exit 0,⟨xMi (.sl true 0 []) (.int .i64 0),G⟩) := by
  rw [xPi]
  simp (disch := omega) only [xNa,Int.reduceNeg,WB,↓reduceIte,xMj]
 rw [yFS,a62]
 simp (disch := omega) only [WB,Nat.reduceSub,xMj,e,↓reduceIte]
theorem yDs (G : Heap) : L.icall (.func 63 []) [.sl true 0 []] G = some (.tup [],G) := by
 have e : L.loop xN9 xVL ⟨xMk (.sl true 0 []) (.int .i64 0),G⟩ = some (.exit 0,⟨xMk (.sl true 0 []) (.int .i64 0),G⟩) := by
  rw [xPj]
  simp (disch := omega) only [xNb,Int.reduceNeg,WB,↓reduceIte,xMl]
 rw [yFT,a63]
 simp (disch := omega) only [WB,Nat.reduceSub,xMl,e,↓reduceIte]
theorem yDt (G : Heap) : ∃ X,L.icall (.func 28 []) [.agg [.int .i64 0,.int .i64 0,.sl true 0 [],.sl true 0 [],.sl true 0 []]] G = some (.tup [],G ++ X) := by
 have h1 := fun G => yDr G
 have h2 := fun G => yDs G
 refine ⟨[.cells false false [.int .i64 0,.int .i64 0,.sl true 0 [],.sl true 0 [],.sl true 0 []]],?_⟩
 rw [yGf,a28]
 simp (disch := first | assumption | omega | rfl | decide) only [WB,Nat.reduceSub,AV.cells,AV.isCell,↓reduceIte,h1,h2]
theorem yE0 {vi si : Int} {z1 z2 z3 : Bool} {b1 b2 b3 : Nat} {G : Heap} {l1 l2 : List Int} {l3 : List Rl} (h1 : l1.length < 1099511627776) (h2 : l2.length < 1099511627776) (h3 : l3.length < 1099511627776) (k1 : G[b1]? = some (.cells false z1 (xD8 l1))) (k2 : G[b2]? = some (.cells false z2 (xD8 l2))) (k3 : G[b3]? = some (.cells false z3 (rls l3))) (n12 : b1 ≠ b2) (n13 : b1 ≠ b3) (n23 : b2 ≠ b3) :
  ∃ G',L.icall (.func 28 []) [.agg [.int .i64 vi,.int .i64 si,.own z1 b1 0 l1.length 1,.own z2 b2 0 l2.length 1,.own z3 b3 0 l3.length 5]] G = some (.tup [],G') ∧ G.length ≤ G'.length ∧ ∀ b,b < G.length → b ≠ b1 → b ≠ b2 → b ≠ b3 → G'[b]? = G[b]? := by
 have t1 := (List.getElem?_eq_some_iff.1 k1).1
 have t2 := (List.getElem?_eq_some_iff.1 k2).1
 have t3 := (List.getElem?_eq_some_iff.1 k3).1
 obtain ⟨l1',e1,f1⟩ := yBZ (G := G ++ [Blk.cells false false [.int .i64 vi,.int .i64 si,.own z1 b1 0 l1.length 1,.own z2 b2 0 l2.length 1,.own z3 b3 0 l3.length 5]]) h1 (xAu k1)
 obtain ⟨l2',e2,f2⟩ := yBZ (G := (G ++ [Blk.cells false false [.int .i64 vi,.int .i64 si,.own z1 b1 0 l1.length 1,.own z2 b2 0 l2.length 1,.own z3 b3 0 l3.length 5]]).set b1 (Blk.cells false z1 (xD8 l1'))) h2 (by rw [List.getElem?_set_ne n12]; exact xAu k2)
 obtain ⟨l3',e3,f3⟩ := yEZ (G := ((G ++ [Blk.cells false false [.int .i64 vi,.int .i64 si,.own z1 b1 0 l1.length 1,.own z2 b2 0 l2.length 1,.own z3 b3 0 l3.length 5]]).set b1 (Blk.cells false z1 (xD8 l1'))).set b2 (Blk.cells false z2 (xD8 l2'))) h3 (by rw [List.getElem?_set_ne n23,List.getElem?_set_ne n13]; exact xAu k3)
 have g1 : ∀ B : Blk,((G ++ [Blk.cells false false [.int .i64 vi,.int .i64 si,.own z1 b1 0 l1.length 1,.own z2 b2 0 l2.length 1,.own z3 b3 0 l3.length 5]]).set b1 B)[G.length]? = some (.cells false false [.int .i64 vi,.int .i64 si,.own z1 b1 0 l1.length 1,.own z2 b2 0 l2.length 1,.own z3 b3 0 l3.length 5]) := fun B => by rw [List.getElem?_set_ne (by omega)]; simp
 have g2 : ∀ B B' : Blk,(((G ++ [Blk.cells false false [.int .i64 vi,.int .i64 si,.own z1 b1 0 l1.length 1,.own z2 b2 0 l2.length 1,.own z3 b3 0 l3.length 5]]).set b1 B).set b2 B')[G.length]? = some (.cells false false [.int .i64 vi,.int .i64 si,.own z1 b1 0 l1.length 1,.own z2 b2 0 l2.length 1,.own z3 b3 0 l3.length 5]) := fun B B' => by rw [List.getElem?_set_ne (by omega)]; exact g1 B
 refine ⟨(((G ++ [Blk.cells false false [.int .i64 vi,.int .i64 si,.own z1 b1 0 l1.length 1,.own z2 b2 0 l2.length 1,.own z3 b3 0 l3.length 5]]).set b1 (Blk.cells false z1 (xD8 l1'))).set b2 (Blk.cells false z2 (xD8 l2'))).set b3 (Blk.cells false z3 (rls l3')),?_,?_,?_⟩
 rotate_left
 ·rw [List.length_set,List.length_set,List.length_set,List.length_append]; omega
 ·intro b hb n1 n2 n3
  rw [List.getElem?_set_ne (fun h => n3 h.symm),List.getElem?_set_ne (fun h => n2 h.symm),List.getElem?_set_ne (fun h => n1 h.symm),List.getElem?_append_left hb]
 ·rw [yGf,a28]
  simp (maxSteps := 30000000) (disch := first | assumption | omega | (simp only [WL,AV.isCell,xAa] <;> omega) | rfl | decide) only [WB,Nat.reduceSub,AV.cells,AV.isCell,↓reduceIte,e1,g1,e2,g2,e3]
end Go.Abs.Tree
