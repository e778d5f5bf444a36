/- MealyFormsMatch: what a caller sees of rows of its own. -/
import Derived.Test.YtkpbekcgigigkaaDoorAMF
import Derived.Test.YtkpbekcgigigkaaDoorAMG
import Derived.Test.YtkpbekcgigigkaaDoorAK1
namespace Go.Abs.Mealy
open Go Go.Abs
set_option linter.unusedSimpArgs false
set_option linter.unusedVariables false
theorem xPR {d w : Nat} {H : Heap} : ∀ (ids : List Nat) (rows : List (List Nat)),ids.length = rows.length → (∀ j,j < ids.length → H[ids.getD j 0]? = some (.cells false false (xAA (rows.getD j [])))) → (∀ r ∈ rows,r.length = w) → (xDf w ids).mapM (frz (d + 1) H) = some (rows.map rowI)
 | [],[],_,_,_ => rfl
 | [],_ :: _,h,_,_ => by simp at h
 | _ :: _,[],h,_,_ => by simp at h
 | q :: ids,r :: rows,h,h1,h2 => by
  have h0 := h1 0 (by simp)
  have hr := h2 r (by simp)
  simp only [List.getD_cons_zero] at h0
  have ih := xPR (d := d) (H := H) (w := w) ids rows (by simpa using h) (fun j hj => by have := h1 (j + 1) (by simpa using hj); simpa using this) (fun x hx => h2 x (by simp [hx]))
  unfold xDf at ih ⊢
  rw [List.map_cons,List.mapM_cons,ih,xAx,h0,xBR (by rw [xAy]; omega),Nat.mul_one,List.drop_zero,List.take_of_length_le (by rw [xAy]; omega),xHk]
  unfold rowI
  rw [← hr]
  rfl
theorem xPS {d w : Nat} {H : Heap} : ∀ (ids : List Nat) (rows : List (List Nat)),ids.length = rows.length → (∀ j,j < ids.length → H[ids.getD j 0]? = some (.cells false false (bs (rows.getD j [])))) → (∀ r ∈ rows,r.length = w) → (xDf w ids).mapM (frz (d + 1) H) = some (rows.map rowB)
 | [],[],_,_,_ => rfl
 | [],_ :: _,h,_,_ => by simp at h
 | _ :: _,[],h,_,_ => by simp at h
 | q :: ids,r :: rows,h,h1,h2 => by
  have h0 := h1 0 (by simp)
  have hr := h2 r (by simp)
  simp only [List.getD_cons_zero] at h0
  have ih := xPS (d := d) (H := H) (w := w) ids rows (by simpa using h) (fun j hj => by have := h1 (j + 1) (by simpa using hj); simpa using this) (fun x hx => h2 x (by simp [hx]))
  unfold xDf at ih ⊢
  rw [List.map_cons,List.mapM_cons,ih,xAx,h0,xBR (by rw [xAJ]; omega),Nat.mul_one,List.drop_zero,List.take_of_length_le (by rw [xAJ]; omega),xOH]
  unfold rowB
  rw [← hr]
  rfl
theorem xMR {B : Heap} {j : Nat} {cs : List AV} (h : B[j]? = some (.cells false false cs)) (hr : cs.all xDd = true) : (B.map (xCW 4))[j]? = some (.cells false false (cs.map (xA9 4))) := by
 rw [List.getElem?_map,h]
 simp only [Option.map_some,xCW,hr,if_true]
theorem xS5 (b0 b1 b2 b3 : Blk) (Q l : Heap) (j : Nat) : (b0 :: b1 :: b2 :: b3 :: (Q ++ l))[4 + j]? = (Q ++ l)[j]? := by
 rw [show 4 + j = j + 1 + 1 + 1 + 1 by omega,List.getElem?_cons_succ,List.getElem?_cons_succ,List.getElem?_cons_succ,List.getElem?_cons_succ]
structure Lft (N : Ma) (w : Nat) (Q : Heap) (pn pe : Nat) (idn ide : List Nat) : Prop where
 gn : Q[pn]? = some (.cells false false (xDf w (idn.map (4 + ·))))
 ge : Q[pe]? = some (.cells false false (xDf w (ide.map (4 + ·))))
 ln : idn.length = N.next.length
 le : ide.length = N.emit.length
 rn : ∀ j,j < idn.length → Q[idn.getD j 0]? = some (.cells false false (xAA (N.next.getD j [])))
 re : ∀ j,j < ide.length → Q[ide.getD j 0]? = some (.cells false false (bs (N.emit.getD j [])))
theorem OwnM.lift {N : Ma} {w pn pe : Nat} {B : Heap} {idn ide : List Nat} (h : OwnM N w B pn pe idn ide) : Lft N w (B.map (xCW 4)) pn pe idn ide := by
 have ho : ∀ l : List Nat,(xDf w l).all xDd = true := fun l => by
  rw [List.all_eq_true]; intro a ha; obtain ⟨x,_,rfl⟩ := List.mem_map.1 ha; rfl
 have hm : ∀ l : List Nat,(xDf w l).map (xA9 4) = xDf w (l.map (4 + ·)) := fun l => by
  unfold xDf; rw [List.map_map,List.map_map]; rfl
 have hi : ∀ l : List Nat,(xAA l).all xDd = true := fun l => by
  rw [List.all_eq_true]; intro a ha; obtain ⟨x,_,rfl⟩ := List.mem_map.1 ha; rfl
 have hb : ∀ l : List Nat,(bs l).all xDd = true := fun l => by
  rw [List.all_eq_true]; intro a ha; obtain ⟨x,_,rfl⟩ := List.mem_map.1 ha; rfl
 have hi2 : ∀ l : List Nat,(xAA l).map (xA9 4) = xAA l := fun l => by
  unfold xAA; rw [List.map_map]; rfl
 have hb2 : ∀ l : List Nat,(bs l).map (xA9 4) = bs l := fun l => by
  unfold bs; rw [List.map_map]; rfl
 refine ⟨by rw [xMR h.gn (ho _),hm],by rw [xMR h.ge (ho _),hm],h.ln,h.le,fun j hj => by rw [xMR (h.rn j hj) (hi _),hi2],fun j hj => by rw [xMR (h.re j hj) (hb _),hb2]⟩
theorem xXx {ids : List Nat} {j : Nat} (h : j < ids.length) : (ids.map (4 + ·)).getD j 0 = 4 + ids.getD j 0 := by
 rw [List.getD_eq_getElem?_getD,List.getElem?_map,List.getElem?_eq_getElem h,List.getD_eq_getElem?_getD,List.getElem?_eq_getElem h]
 rfl
section
variable {N : Ma} {w pn pe : Nat} {Q : Heap} {idn ide : List Nat}
theorem Lft.frzN (h : Lft N w Q pn pe idn ide) (hw : ∀ r ∈ N.next,r.length = w) (d : Nat) (b0 b1 b2 b3 : Blk) (l : Heap) : frz (d + 2) (b0 :: b1 :: b2 :: b3 :: (Q ++ l)) (.own false (4 + pn) 0 N.next.length 1) = some (.sl false N.next.length (N.next.map rowI)) := by
 have hl : (xDf w (idn.map (4 + ·))).length = N.next.length := by rw [xAV,List.length_map,h.ln]
 rw [xAx,xS5,xAZ (xAI h.gn),h.gn,xBR (by omega),Nat.mul_one,List.drop_zero,List.take_of_length_le (by omega),xPR (idn.map (4 + ·)) N.next (by rw [List.length_map,h.ln]) (fun j hj => ?_) hw]
 ·rfl
 ·rw [List.length_map] at hj
  rw [xXx hj,xS5,xAZ (xAI (h.rn j hj)),h.rn j hj]
theorem Lft.frzE (h : Lft N w Q pn pe idn ide) (hw : ∀ r ∈ N.emit,r.length = w) (d : Nat) (b0 b1 b2 b3 : Blk) (l : Heap) : frz (d + 2) (b0 :: b1 :: b2 :: b3 :: (Q ++ l)) (.own false (4 + pe) 0 N.emit.length 1) = some (.sl false N.emit.length (N.emit.map rowB)) := by
 have hl : (xDf w (ide.map (4 + ·))).length = N.emit.length := by rw [xAV,List.length_map,h.le]
 rw [xAx,xS5,xAZ (xAI h.ge),h.ge,xBR (by omega),Nat.mul_one,List.drop_zero,List.take_of_length_le (by omega),xPS (ide.map (4 + ·)) N.emit (by rw [List.length_map,h.le]) (fun j hj => ?_) hw]
 ·rfl
 ·rw [List.length_map] at hj
  rw [xXx hj,xS5,xAZ (xAI (h.re j hj)),h.re j hj]
theorem Lft.over (h : Lft N w Q pn pe idn ide) (hV : Vm N) (hw : w < 1000) (hn : ∀ r ∈ N.next,r.length = w) (he : ∀ r ∈ N.emit,r.length = w) (h0 : 0 < w) (b0 b1 b2 b3 : Blk) (l : Heap) :
  ∃ G1 G2,L.icall (.func 39 []) [.own false (4 + pn) 0 N.next.length 1] (b0 :: b1 :: b2 :: b3 :: (Q ++ l)) = some (.tup [],G1) ∧ L.icall (.func 40 []) [.own false (4 + pe) 0 N.emit.length 1] G1 = some (.tup [],G2) ∧
   (∀ b,b < 4 ∨ Q.length + 4 ≤ b → G1[b]? = (b0 :: b1 :: b2 :: b3 :: (Q ++ l))[b]? ∧ G2[b]? = (b0 :: b1 :: b2 :: b3 :: (Q ++ l))[b]?) := by
 have hn9 := hV.n9
 have hel := hV.el
 have hid : ∀ q ∈ idn.map (4 + ·),4 ≤ q ∧ q < Q.length + 4 := by
  intro q hq
  obtain ⟨x,hx,rfl⟩ := List.mem_map.1 hq
  obtain ⟨j,hj,rfl⟩ := List.getElem_of_mem hx
  have := xAI (h.rn j hj)
  rw [List.getD_eq_getElem?_getD,List.getElem?_eq_getElem hj] at this
  simp only [Option.getD_some] at this
  omega
 have hie : ∀ q ∈ ide.map (4 + ·),4 ≤ q ∧ q < Q.length + 4 := by
  intro q hq
  obtain ⟨x,hx,rfl⟩ := List.mem_map.1 hq
  obtain ⟨j,hj,rfl⟩ := List.getElem_of_mem hx
  have := xAI (h.re j hj)
  rw [List.getD_eq_getElem?_getD,List.getElem?_eq_getElem hj] at this
  simp only [Option.getD_some] at this
  omega
 have rowsN : Rows (b0 :: b1 :: b2 :: b3 :: (Q ++ l)) w (idn.map (4 + ·)) := by
  intro q hq
  obtain ⟨x,hx,rfl⟩ := List.mem_map.1 hq
  obtain ⟨j,hj,rfl⟩ := List.getElem_of_mem hx
  have hr := h.rn j hj
  have e : idn.getD j 0 = idn[j] := by rw [List.getD_eq_getElem?_getD,List.getElem?_eq_getElem hj]; rfl
  rw [e] at hr
  exact ⟨xAA (N.next.getD j []),by rw [xAy]; exact hn _ (xAh (show j < N.next.length by rw [← h.ln]; exact hj)),by rw [xS5,xAZ (xAI hr),hr]⟩
 have xCu : Rows (b0 :: b1 :: b2 :: b3 :: (Q ++ l)) w (ide.map (4 + ·)) := by
  intro q hq
  obtain ⟨x,hx,rfl⟩ := List.mem_map.1 hq
  obtain ⟨j,hj,rfl⟩ := List.getElem_of_mem hx
  have hr := h.re j hj
  have e : ide.getD j 0 = ide[j] := by rw [List.getD_eq_getElem?_getD,List.getElem?_eq_getElem hj]; rfl
  rw [e] at hr
  exact ⟨bs (N.emit.getD j []),by rw [xAJ]; exact he _ (xAh (show j < N.emit.length by rw [← h.le]; exact hj)),by rw [xS5,xAZ (xAI hr),hr]⟩
 have kn : (b0 :: b1 :: b2 :: b3 :: (Q ++ l))[4 + pn]? = some (.cells false false (xDf w (idn.map (4 + ·)))) := by rw [xS5,xAZ (xAI h.gn),h.gn]
 have ke : (b0 :: b1 :: b2 :: b3 :: (Q ++ l))[4 + pe]? = some (.cells false false (xDf w (ide.map (4 + ·)))) := by rw [xS5,xAZ (xAI h.ge),h.ge]
 have odd : ∀ (p : Nat) (ids : List Nat),0 < ids.length → (b0 :: b1 :: b2 :: b3 :: (Q ++ l))[p]? = some (.cells false false (xDf w ids)) → p ∉ idn.map (4 + ·) ∧ p ∉ ide.map (4 + ·) := by
  intro p ids hi hp
  have hne : ∀ (x : List AV),(∀ a ∈ x,∃ k n,a = .int k n) → xDf w ids ≠ x := by
   intro x hx e
   cases ids with
   | nil => simp at hi
   | cons a r =>
    have := hx (.own false a 0 w 1) (by rw [← e]; exact List.mem_cons_self)
    obtain ⟨k,n,q⟩ := this
    cases q
  constructor
  ·intro hm
   obtain ⟨x,hx,rfl⟩ := List.mem_map.1 hm
   obtain ⟨j,hj,rfl⟩ := List.getElem_of_mem hx
   have hr := h.rn j hj
   have e : idn.getD j 0 = idn[j] := by rw [List.getD_eq_getElem?_getD,List.getElem?_eq_getElem hj]; rfl
   rw [e] at hr
   rw [xS5,xAZ (xAI hr),hr] at hp
   injection hp with hp
   injection hp with _ _ hp
   exact hne _ (fun a ha => by obtain ⟨y,_,rfl⟩ := List.mem_map.1 ha; exact ⟨_,_,rfl⟩) hp.symm
  ·intro hm
   obtain ⟨x,hx,rfl⟩ := List.mem_map.1 hm
   obtain ⟨j,hj,rfl⟩ := List.getElem_of_mem hx
   have hr := h.re j hj
   have e : ide.getD j 0 = ide[j] := by rw [List.getD_eq_getElem?_getD,List.getElem?_eq_getElem hj]; rfl
   rw [e] at hr
   rw [xS5,xAZ (xAI hr),hr] at hp
   injection hp with hp
   injection hp with _ _ hp
   exact hne _ (fun a ha => by obtain ⟨y,_,rfl⟩ := List.mem_map.1 ha; exact ⟨_,_,rfl⟩) hp.symm
 have l1 : (idn.map (4 + ·)).length = N.next.length := by rw [List.length_map,h.ln]
 have l2 : (ide.map (4 + ·)).length = N.emit.length := by rw [List.length_map,h.le]
 have h0n := hV.n0
 have o1 := odd _ _ (by omega) kn
 have o2 := odd _ _ (by omega) ke
 obtain ⟨G1,a1,a2,a3,a4⟩ := yFU (by omega) (by omega) o1.1 kn rowsN
 have rowsE1 : Rows G1 w (ide.map (4 + ·)) := by
  intro q hq
  by_cases c : q ∈ idn.map (4 + ·)
  ·exact a4 q c
  ·obtain ⟨cs,x1,x2⟩ := xCu q hq
   exact ⟨cs,x1,by rw [a2 q c,x2]⟩
 obtain ⟨G2,c1,c2,c3,c4⟩ := yFV (by omega) (by omega) o2.2 (by rw [a2 _ o2.1,ke]) rowsE1
 rw [l1] at a1
 rw [l2] at c1
 refine ⟨G1,G2,a1,c1,fun b hb => ?_⟩
 have n1 : b ∉ idn.map (4 + ·) := fun q => by have := hid b q; omega
 have n2 : b ∉ ide.map (4 + ·) := fun q => by have := hie b q; omega
 exact ⟨a2 b n1,by rw [c2 b n2,a2 b n1]⟩
end
end Go.Abs.Mealy
