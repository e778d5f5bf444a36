/- mapped,its result as data. -/
import Derived.Test.YtijmhicopfphnaaDoorAMD
import Derived.Test.YtijmhicopfphnaaDoorAMR
import Derived.Test.YtijmhicopfphnaaDoorAMM
import Derived.Test.YtijmhicopfphnaaDoorAK1
namespace Go.Abs.Tree
open Go Go.Abs
set_option linter.unusedSimpArgs false
set_option linter.unusedVariables false
theorem yAP (n : Aut) (zn : Bool) (num : List Int) (h1 : n.st.length < 1099511627776) (h2 : n.fi.length < 1099511627776) (h3 : n.rl.length < 1099511627776)
  (q1 : ∀ q ∈ n.st,0 ≤ q ∧ q < (num.length : Nat)) (q2 : ∀ q ∈ n.fi,0 ≤ q ∧ q < (num.length : Nat)) (q3 : ∀ u ∈ n.rl,(0 ≤ u.l ∧ u.l < (num.length : Nat)) ∧ (0 ≤ u.r ∧ u.r < (num.length : Nat)) ∧ (0 ≤ u.t ∧ u.t < (num.length : Nat))) :
  ∃ z1 z2 z3,L.pcall 58 [n.av,iw zn num] = some (yHh num n z1 z2 z3).av := by
 obtain ⟨v,G,h,f1,f2,f3,rfl,o1,o2,o3⟩ := xSV n zn num h1 h2 h3 q1 q2 q3
 obtain ⟨z1,e1⟩ := o1.frzL (fun d H => xDz d H _)
 obtain ⟨z2,e2⟩ := o2.frzL (fun d H => xDz d H _)
 obtain ⟨z3,e3⟩ := o3.frzL (fun d H => xFt d H _)
 refine ⟨z1,z2,z3,?_⟩
 rw [yH8,xAd,show [n.av,iw zn num] = [n.av,iw zn num] ++ [] from rfl,← yAv,h]
 show (([AV.int .i64 n.vars,.int .i64 0,f1,f2,f3] : List AV).mapM (frz 5 G)).map AV.agg = _
 simp only [List.mapM_cons,List.mapM_nil,e1 4,e2 4,e3 4,frz]
 rfl
theorem yHi (z1 z2 : Bool) (a b : List Int) (ha : a.length < 1099511627776) (hb : b.length < 1099511627776) :
  xCG L 67 [.sl false 2 [iw z1 a,iw z2 b]] = some (.own ((a ++ b).length == 0) 0 0 (a ++ b).length 1,[.cells false ((a ++ b).length == 0) (xD8 (a ++ b))]) := by
 by_cases h0 : a.length + b.length = 0
 ·have h1 : a = [] := List.length_eq_zero_iff.1 (by omega)
  have h2 : b = [] := List.length_eq_zero_iff.1 (by omega)
  subst h1; subst h2
  exact xYc z1 z2
 ·have hz : ((a ++ b).length == 0) = false := by rw [beq_eq_false_iff_ne,List.length_append]; omega
  rw [hz]
  exact xYb z1 z2 a b ha hb (by omega)
theorem yIp (z1 z2 : Bool) (a b : List Rl) (ha : a.length < 1099511627776) (hb : b.length < 1099511627776) :
  xCG L 68 [.sl false 2 [.sl z1 a.length (rls a),.sl z2 b.length (rls b)]] = some (.own ((a ++ b).length == 0) 0 0 (a ++ b).length 5,[.cells false ((a ++ b).length == 0) (rls (a ++ b))]) := by
 by_cases h0 : a.length + b.length = 0
 ·have h1 : a = [] := List.length_eq_zero_iff.1 (by omega)
  have h2 : b = [] := List.length_eq_zero_iff.1 (by omega)
  subst h1; subst h2
  exact xYe z1 z2
 ·have hz : ((a ++ b).length == 0) = false := by rw [beq_eq_false_iff_ne,List.length_append]; omega
  rw [hz]
  exact xYd z1 z2 a b ha hb (by omega)
abbrev zC : Blk := .cells false false [.int .i64 0,.int .i64 0,.sl true 0 [],.sl true 0 [],.sl true 0 []]
section
variable {x y : Aut} {s5 : AV}
abbrev xyA (x y : Aut) : AV := .agg [.int .i64 x.vars,.int .i64 x.states,iw x.z1 x.st,iw x.z2 x.fi,.sl x.z3 x.rl.length (rls x.rl),.int .i64 y.vars,.int .i64 y.states,iw y.z1 y.st,iw y.z2 y.fi,.sl y.z3 y.rl.length (rls y.rl)]
noncomputable abbrev L0 (x y : Aut) (s5 : AV) (i : Int) (H : Heap) := L.loop xO7 xXg ⟨xM9 (.ptr 0 0) (.ptr 1 0) (.ptr 2 0) s5 (xyA x y) (.int .i64 i),H⟩
abbrev H0 (x y : Aut) : Heap := [.cells false false x.cells,.cells false false y.cells,zC]
theorem yDB (T : Heap) : L0 x y s5 2 (H0 x y ++ T) = some (.exit 0,⟨xM9 (.ptr 0 0) (.ptr 1 0) (.ptr 2 0) s5 (xyA x y) (.int .i64 2),H0 x y ++ T⟩) := by
 unfold L0
 rw [xXh]
 simp (disch := omega) only [xNZ,List.cons_append,List.nil_append,xBi,xAr,xAl,xAz,xDV,opv,List.getD_cons_succ,List.getD_cons_zero,xCH,Int.lt_irrefl,decide_false,xAA,xBj,List.set_cons_succ,List.set_cons_zero,xAy,xAs,xAx,xAk,xAP,xAv,Bool.false_eq_true,↓reduceIte,xDM,xCv,xBn,xLd]
theorem xQl {i : Int} {n : Aut} (hi : i = 0 ∧ n = x ∨ i = 1 ∧ n = y) (T : Heap) (h : L.pcall 14 [n.av] = some (.int .i64 0)) : L0 x y s5 i (H0 x y ++ T) = L0 x y s5 (i + 1) (H0 x y ++ T ++ [.cells false false n.cells]) := by
 unfold L0
 rw [xXh]
 rcases hi with ⟨rfl,rfl⟩ | ⟨rfl,rfl⟩
 ·simp (maxSteps := 30000000) (disch := first | assumption | omega | (simp only [List.length_cons,List.length_nil,List.length_append,List.length_set,List.length_replicate,List.length_map,List.length_range,List.length_take,List.length_drop,List.all_cons,List.all_nil,AV.isCell,Bool.and_self,Bool.and_true,xAn,xAg,xAh,xAf,xAb,xAa] <;> omega) | rfl | decide) only [xNZ,List.cons_append,List.nil_append,xBi,xAr,xAl,xAz,xDV,opv,List.getD_cons_succ,List.getD_cons_zero,xCH,Int.reduceLT,decide_true,xAA,xBj,List.set_cons_succ,List.set_cons_zero,xAy,xAs,xAx,xAk,xAP,xAv,↓reduceIte,xBZ,xAD,xPz,xLu,Int.toNat_zero,Nat.reduceMul,List.drop_zero,List.take_succ_cons,List.take_zero,xIh,xFh,AV.cells,List.all_cons,AV.isCell,List.all_nil,Bool.and_self,List.length_cons,xBr,List.length_nil,Nat.zero_add,Nat.reduceAdd,xFe,List.getElem?_cons_succ,xIO,List.getElem?_cons_zero,xAN,splice,List.drop_succ_cons,List.drop_nil,List.append_nil,xJg,xAw,xCX,xCw,xEv,xAE,List.take_nil,xC7,xEJ,List.map_cons,List.map_nil,xBu,frzN,List.mapM_cons,xD7,xBQ,xGe,List.mapM_nil,Option.pure_def,Option.bind_eq_bind,Option.bind_some,Option.map_some,xBt,h,xBs,xE0,xAJ,xDQ,xEz,Bool.not_true,Bool.false_eq_true,xAt,xDS,Int.zero_add,xLs,xAC,xLd]
 ·simp (maxSteps := 30000000) (disch := first | assumption | omega | (simp only [List.length_cons,List.length_nil,List.length_append,List.length_set,List.length_replicate,List.length_map,List.length_range,List.length_take,List.length_drop,List.all_cons,List.all_nil,AV.isCell,Bool.and_self,Bool.and_true,xAn,xAg,xAh,xAf,xAb,xAa] <;> omega) | rfl | decide) only [xNZ,List.cons_append,List.nil_append,xBi,xAr,xAl,xAz,xDV,opv,List.getD_cons_succ,List.getD_cons_zero,xCH,Int.reduceLT,decide_true,xAA,xBj,List.set_cons_succ,List.set_cons_zero,xAy,xAs,xAx,xAk,xAP,xAv,↓reduceIte,xBZ,xAD,xPz,xLu,Int.toNat_one,Nat.reduceMul,List.drop_succ_cons,List.drop_zero,List.take_succ_cons,List.take_nil,xIh,xFh,AV.cells,List.all_cons,AV.isCell,List.all_nil,Bool.and_self,List.length_cons,xBr,List.length_nil,Nat.zero_add,Nat.reduceAdd,xFe,List.getElem?_cons_succ,xIO,List.getElem?_cons_zero,xAN,splice,List.take_zero,List.drop_nil,List.append_nil,xJg,xAw,xCX,xCw,xEv,xAE,xC7,xEJ,List.map_cons,List.map_nil,xBu,frzN,List.mapM_cons,xD7,xBQ,xGe,List.mapM_nil,Option.pure_def,Option.bind_eq_bind,Option.bind_some,Option.map_some,xBt,h,xBs,xE0,xAJ,xDQ,xEz,Bool.not_true,Bool.false_eq_true,xAt,xDS,Int.reduceAdd,xLs,xAC,xLd]
theorem xUZ {i : Int} {n : Aut} {e : Int} (hi : i = 0 ∧ n = x ∨ i = 1 ∧ n = y) (he : e ≠ 0) (T : Heap) (h : L.pcall 14 [n.av] = some (.int .i64 e)) : L0 x y s5 i (H0 x y ++ T) = some (.ret,⟨xM9 (.ptr 0 0) (.ptr 1 0) (.ptr 2 0) (.int .i64 e) (xyA x y) (.int .i64 i),H0 x y ++ T ++ [.cells false false n.cells]⟩) := by
 unfold L0
 rw [xXh]
 rcases hi with ⟨rfl,rfl⟩ | ⟨rfl,rfl⟩
 ·simp (maxSteps := 30000000) (disch := first | assumption | omega | (simp only [List.length_cons,List.length_nil,List.length_append,List.length_set,List.length_replicate,List.length_map,List.length_range,List.length_take,List.length_drop,List.all_cons,List.all_nil,AV.isCell,Bool.and_self,Bool.and_true,xAn,xAg,xAh,xAf,xAb,xAa] <;> omega) | rfl | decide) only [xNZ,List.cons_append,List.nil_append,xBi,xAr,xAl,xAz,xDV,opv,List.getD_cons_succ,List.getD_cons_zero,xCH,Int.reduceLT,decide_true,xAA,xBj,List.set_cons_succ,List.set_cons_zero,xAy,xAs,xAx,xAk,xAP,xAv,↓reduceIte,xBZ,xAD,xPz,xLu,Int.toNat_zero,Nat.reduceMul,List.drop_zero,List.take_succ_cons,List.take_zero,xIh,xFh,AV.cells,List.all_cons,AV.isCell,List.all_nil,Bool.and_self,List.length_cons,xBr,List.length_nil,Nat.zero_add,Nat.reduceAdd,xFe,List.getElem?_cons_succ,xIO,List.getElem?_cons_zero,xAN,splice,List.drop_succ_cons,List.drop_nil,List.append_nil,xJg,xAw,xCX,xCw,xEv,xAE,List.take_nil,xC7,xEJ,List.map_cons,List.map_nil,xBu,frzN,List.mapM_cons,xD7,xBQ,xGe,List.mapM_nil,Option.pure_def,Option.bind_eq_bind,Option.bind_some,Option.map_some,xBt,h,xBs,xE0,xAJ,xDQ,xEz,he,decide_false,Bool.not_false,xBG,fillA,xE2,xBa,xDE,xDI,xLd]
 ·simp (maxSteps := 30000000) (disch := first | assumption | omega | (simp only [List.length_cons,List.length_nil,List.length_append,List.length_set,List.length_replicate,List.length_map,List.length_range,List.length_take,List.length_drop,List.all_cons,List.all_nil,AV.isCell,Bool.and_self,Bool.and_true,xAn,xAg,xAh,xAf,xAb,xAa] <;> omega) | rfl | decide) only [xNZ,List.cons_append,List.nil_append,xBi,xAr,xAl,xAz,xDV,opv,List.getD_cons_succ,List.getD_cons_zero,xCH,Int.reduceLT,decide_true,xAA,xBj,List.set_cons_succ,List.set_cons_zero,xAy,xAs,xAx,xAk,xAP,xAv,↓reduceIte,xBZ,xAD,xPz,xLu,Int.toNat_one,Nat.reduceMul,List.drop_succ_cons,List.drop_zero,List.take_succ_cons,List.take_nil,xIh,xFh,AV.cells,List.all_cons,AV.isCell,List.all_nil,Bool.and_self,List.length_cons,xBr,List.length_nil,Nat.zero_add,Nat.reduceAdd,xFe,List.getElem?_cons_succ,xIO,List.getElem?_cons_zero,xAN,splice,List.take_zero,List.drop_nil,List.append_nil,xJg,xAw,xCX,xCw,xEv,xAE,xC7,xEJ,List.map_cons,List.map_nil,xBu,frzN,List.mapM_cons,xD7,xBQ,xGe,List.mapM_nil,Option.pure_def,Option.bind_eq_bind,Option.bind_some,Option.map_some,xBt,h,xBs,xE0,xAJ,xDQ,xEz,he,decide_false,Bool.not_false,xBG,fillA,xE2,xBa,xDE,xDI,xLd]
end
theorem xU0 {x y : Aut} (hx : TyA x) (hy : TyA y) (k1 : xKJ x = 0) (k2 : xKJ y = 0) : L.loop xO7 xXg ⟨xM9 (.ptr 0 0) (.ptr 1 0) (.ptr 2 0) (.int .i64 0) (xyA x y) (.int .i64 0),[.cells false false x.cells,.cells false false y.cells,zC]⟩ =
  some (.exit 0,⟨xM9 (.ptr 0 0) (.ptr 1 0) (.ptr 2 0) (.int .i64 0) (xyA x y) (.int .i64 2),[.cells false false x.cells,.cells false false y.cells,zC,.cells false false x.cells,.cells false false y.cells]⟩) := by
 have c1 := xJp x hx.st hx.fi hx.rl hx.u8
 have c2 := xJp y hy.st hy.fi hy.rl hy.u8
 rw [k1] at c1
 rw [k2] at c2
 have n1 := xQl (x := x) (y := y) (s5 := .int .i64 0) (.inl ⟨rfl,rfl⟩) [] c1
 have n2 := xQl (x := x) (y := y) (s5 := .int .i64 0) (.inr ⟨rfl,rfl⟩) [.cells false false x.cells] c2
 have n3 := yDB (x := x) (y := y) (s5 := .int .i64 0) [.cells false false x.cells,.cells false false y.cells]
 simp only [List.append_nil,Int.zero_add,H0,List.cons_append,List.nil_append,Int.reduceAdd] at n1 n2 n3
 exact n1.trans (n2.trans n3)
set_option maxRecDepth 20000 in
set_option maxHeartbeats 2000000 in
theorem xVX (x y : Aut) (hx : TyA x) (hy : TyA y) (h : xVN x y = 0) : xCG L 30 [x.av,y.av] = some (.tup [.agg [.int .i64 x.vars,.int .i64 (x.states + y.states),.own ((x.st ++ y.st.map fun q => x.states + q).length == 0) 0 0 (x.st ++ y.st.map fun q => x.states + q).length 1,.own ((x.fi ++ y.fi.map fun q => x.states + q).length == 0) 1 0 (x.fi ++ y.fi.map fun q => x.states + q).length 1,.own ((x.rl ++ y.rl.map (shR x.states)).length == 0) 2 0 (x.rl ++ y.rl.map (shR x.states)).length 5],.int .i64 0],
  [.cells false ((x.st ++ y.st.map fun q => x.states + q).length == 0) (xD8 (x.st ++ y.st.map fun q => x.states + q)),.cells false ((x.fi ++ y.fi.map fun q => x.states + q).length == 0) (xD8 (x.fi ++ y.fi.map fun q => x.states + q)),.cells false ((x.rl ++ y.rl.map (shR x.states)).length == 0) (rls (x.rl ++ y.rl.map (shR x.states)))]) := by
 unfold xVN at h
 split at h
 case isFalse => contradiction
 rename_i k1
 split at h
 case isFalse => contradiction
 rename_i k2
 split at h
 case isFalse => omega
 rename_i k3
 split at h
 case isTrue => omega
 rename_i k45
 have k4 : ¬ 64 < x.states + y.states := by omega
 have k5 : ¬ 512 < x.rl.length + y.rl.length := by omega
 have hL := xU0 hx hy k1 k2
 have hVx := chkE_zero.1 k1
 have hVy := chkE_zero.1 k2
 have s1 := hVx.s0
 have s2 := hVx.s64
 have s3 := hVy.s0
 have s4 := hVy.s64
 obtain ⟨sa,hsa⟩ : ∃ sa : Nat,x.states = (sa : Nat) := ⟨x.states.toNat,by omega⟩
 obtain ⟨n,hn⟩ : ∃ n : Nat,y.states = (n : Nat) := ⟨y.states.toNat,by omega⟩
 have e3 : (x.vars = y.vars) = True := eq_true k3
 have e64 : ((64 : Int) < ((sa + n : Nat) : Int)) = False := eq_false (by omega)
 have e512 : ((512 : Int) < ((x.rl.length + y.rl.length : Nat) : Int)) = False := eq_false (by omega)
 have sts : ∀ q ∈ y.st,0 ≤ q ∧ q < (n : Nat) := fun q hq => by have := xIM hVy.st q hq; omega
 have fis : ∀ q ∈ y.fi,0 ≤ q ∧ q < (n : Nat) := fun q hq => by have := xIM hVy.fi q hq; omega
 have rls' : ∀ u ∈ y.rl,(0 ≤ u.l ∧ u.l < (n : Nat)) ∧ (0 ≤ u.r ∧ u.r < (n : Nat)) ∧ (0 ≤ u.t ∧ u.t < (n : Nat)) := fun u hu => by have := hVy.rule u hu; omega
 have hnl : ((xQg sa n).map fun (k : Nat) => (k : Int)).length = n := by rw [List.length_map,xQh]
 obtain ⟨m1,m2,m3,hm⟩ := yAP y false ((xQg sa n).map fun (k : Nat) => (k : Int)) hy.st hy.fi hy.rl (by rw [hnl]; exact sts) (by rw [hnl]; exact fis) (by rw [hnl]; exact rls')
 unfold yHh at hm
 rw [xOk _ sts,xOk _ fis,xSw _ rls'] at hm
 have hol := xSv (x := x) (sa := sa) (n := n) (cy := .cells false false y.cells) (cz := zC) (b3 := .cells false false x.cells) (b4 := .cells false false y.cells) hsa (by omega) (by omega) n 0 (by omega)
 have ho0 : xQg sa 0 ++ List.replicate n 0 = List.replicate n 0 := rfl
 rw [ho0] at hol
 have hfl : iw false ((xQg sa n).map fun (k : Nat) => (k : Int)) = .sl false n (xJG (xQg sa n)) := by rw [xX1]; unfold iw; rw [hnl]
 rw [hfl] at hm
 have d1 := yHi x.z1 m1 x.st (y.st.map fun q => (sa : Int) + q) hx.st (by rw [List.length_map]; exact hy.st)
 have d2 := yHi x.z2 m2 x.fi (y.fi.map fun q => (sa : Int) + q) hx.fi (by rw [List.length_map]; exact hy.fi)
 have d3 := yIp x.z3 m3 x.rl (y.rl.map (shR sa)) hx.rl (by rw [List.length_map]; exact hy.rl)
 simp only [Aut.av,Aut.cells,xyA,zC,hsa,hn] at hm hL hol ⊢
 have ol := xQh sa n
 have htk : List.take n (xQg sa n) = xQg sa n := List.take_of_length_le (by omega)
 have e1 : ∀ (l : List Int),List.take l.length l = l := fun l => List.take_length
 have e2 : ∀ (l : List Rl),List.take (l.length * 5) (rls l) = rls l := fun l => List.take_of_length_le (by rw [xAa]; omega)
 have m1 : (x.st ++ y.st.map fun q => (sa : Int) + q).length < 2199023255552 := by rw [List.length_append,List.length_map]; have := hx.st; have := hy.st; omega
 have m2 : (x.fi ++ y.fi.map fun q => (sa : Int) + q).length < 2199023255552 := by rw [List.length_append,List.length_map]; have := hx.fi; have := hy.fi; omega
 have m3 : (x.rl ++ y.rl.map (shR sa)).length < 2199023255552 := by rw [List.length_append,List.length_map]; have := hx.rl; have := hy.rl; omega
 generalize hS : x.st ++ y.st.map (fun q => (sa : Int) + q) = S at *
 generalize hF : x.fi ++ y.fi.map (fun q => (sa : Int) + q) = F at *
 generalize hR : x.rl ++ y.rl.map (shR (sa : Int)) = R at *
 generalize y.st.map (fun q => (sa : Int) + q) = S' at *
 generalize y.fi.map (fun q => (sa : Int) + q) = F' at *
 generalize y.rl.map (shR (sa : Int)) = R' at *
 simp only [Int.natCast_zero] at hol
 rw [xBI,yEj,a30,xAp]
 simp (maxSteps := 30000000) (disch := first | assumption | omega | (simp only [List.length_cons,List.length_nil,List.length_append,List.length_set,List.length_replicate,List.length_map,List.length_range,List.length_take,List.length_drop,List.all_cons,List.all_nil,AV.isCell,Bool.and_self,Bool.and_true,xAn,xAg,xAh,xAf,xAb,xAa] <;> omega) | rfl | decide) only [List.append_nil,List.length_cons,List.length_nil,Nat.zero_add,Nat.reduceAdd,Nat.reduceSub,pads,List.cons_append,List.nil_append,xBi,xAr,xAl,xAz,xFh,AV.cells,opv,List.getD_cons_zero,List.all_cons,AV.isCell,List.all_nil,Bool.and_self,↓reduceIte,xBj,List.set_cons_succ,List.set_cons_zero,xAy,List.getD_cons_succ,xDQ,xAs,xAx,xAk,xCw,xEv,List.getElem?_cons_zero,xAE,List.drop_zero,List.take_succ_cons,List.take_nil,xC7,xAA,List.getElem?_cons_succ,xBG,beq_self_eq_true,List.map_cons,List.map_nil,fillA,Nat.reduceLeDiff,and_self,splice,List.take_zero,List.drop_succ_cons,Nat.le_refl,List.drop_nil,Option.map_some,xAD,xCZ,xLd,hL,xAQ,xCV,xAW,Nat.add_zero,xE3,xDV,xEz,e3,decide_true,Bool.not_true,xAP,xAv,Bool.false_eq_true,xDS,xOI,xLs,xGi,e64,decide_false,xBb,xAL,xHu,xGy,e512,xFd,xBc,xBZ,xAt,xCL,xFi,Int.toNat_natCast,xDG,xEu,xD4,xXi,hol,xEJ,xBu,frzN,List.mapM_cons,xD7,xBQ,xGe,List.mapM_nil,Option.pure_def,Option.bind_eq_bind,Option.bind_some,xDT,xBR,Nat.mul_one,xDC,htk,xE8,xCU,xBt,hm,xBs,xE0,xAJ,Bool.and_true,Bool.and_false,fzIds,List.flatMap_cons,xFs,xCK,xGF,List.flatMap_nil,xGz,xB2,xFg,List.foldl_cons,List.modify_cons,Nat.reduceEqDiff,xGg,List.foldl_nil,xBr,xFe,xAN,xAw,xCX,xD0,xBe,xBg,xBF,xFm,xCI,xD3,xBV,xBX,xFZ,xCT,xH2,xBW,xDX,xBP,xHw,xBO,xB0,List.isEmpty_nil,xBf,xFo,AOp.args,xGO,xEb,xER,xA9,d1,xES,xCY,xD9,xCJ,xCS,xJ4,xJ3,xJD,xBh,xFq,xBY,xBU,xGK,d2,d3,xOl,xBT,xCR,xBS,xCQ,adoptL,xBM,xE2,xBH,xCz,xCy,xDF,xBd,xIh,xCx,xE6,xDN,xAX,xAR,xAT,xAS,xCC,xBo,xCA,xDO,xDY,xDZ,xGG,xCP,Nat.reduceBEq,Option.map_none,xCB,xCE,xCD,xBp]
set_option maxRecDepth 20000 in
set_option maxHeartbeats 2000000 in
theorem xPI (x y : Aut) (hx : TyA x) (hy : TyA y) (h : xKJ x ≠ 0 ∨ xKJ y ≠ 0) : xCG L 30 [x.av,y.av] = some (.tup [zA.av,.int .i64 (xVN x y)],[]) := by
 have c1 := xJp x hx.st hx.fi hx.rl hx.u8
 have c2 := xJp y hy.st hy.fi hy.rl hy.u8
 unfold xVN
 change _ = some (AV.tup [.agg [.int .i64 0,.int .i64 0,.sl true 0 [],.sl true 0 [],.sl true 0 []],_],[])
 by_cases k1 : xKJ x = 0
 ·rw [if_pos k1,if_neg (by omega)]
  rw [k1] at c1
  have n1 := xQl (x := x) (y := y) (s5 := .int .i64 0) (.inl ⟨rfl,rfl⟩) [] c1
  have n2 := xUZ (x := x) (y := y) (s5 := .int .i64 0) (.inr ⟨rfl,rfl⟩) (by omega) [.cells false false x.cells] c2
  simp only [List.append_nil,Int.zero_add,H0,List.cons_append,List.nil_append] at n1 n2
  have hL := n1.trans n2
  unfold L0 at hL
  generalize xKJ y = e at *
  rw [xBI,yEj,a30,xAp]
  simp (maxSteps := 30000000) (disch := first | assumption | omega | (simp only [List.length_cons,List.length_nil,List.length_append,List.length_set,List.length_replicate,List.length_map,List.length_range,List.length_take,List.length_drop,List.all_cons,List.all_nil,AV.isCell,Bool.and_self,Bool.and_true,xAn,xAg,xAh,xAf,xAb,xAa] <;> omega) | rfl | decide) only [List.append_nil,List.length_cons,List.length_nil,Nat.zero_add,Nat.reduceAdd,Nat.reduceSub,pads,List.cons_append,List.nil_append,xBi,xAr,xAl,xAz,xFh,AV.cells,opv,List.getD_cons_zero,List.all_cons,AV.isCell,List.all_nil,Bool.and_self,↓reduceIte,xBj,List.set_cons_succ,List.set_cons_zero,xAy,List.getD_cons_succ,xDQ,xAs,xAx,xAk,xCw,xEv,List.getElem?_cons_zero,xAE,List.drop_zero,List.take_succ_cons,List.take_nil,xC7,xAA,List.getElem?_cons_succ,xBG,beq_self_eq_true,List.map_cons,List.map_nil,fillA,Nat.reduceLeDiff,and_self,splice,List.take_zero,List.drop_succ_cons,Nat.le_refl,List.drop_nil,Option.map_some,xAD,xCZ,xLd,hL,xBa,xDE,xBH,xCz,xCy,xDF,xBd,xIh,xCx,xE6,xDN,xAX,xAR,xAT,xAS,xCC,xBo,xCA,xDO,xD6,xCB,xCE,xCD,xBp]
 ·rw [if_neg k1]
  have n2 := xUZ (x := x) (y := y) (s5 := .int .i64 0) (.inl ⟨rfl,rfl⟩) k1 [] c1
  simp only [List.append_nil,H0,List.cons_append,List.nil_append] at n2
  unfold L0 at n2
  generalize xKJ x = e at *
  rw [xBI,yEj,a30,xAp]
  simp (maxSteps := 30000000) (disch := first | assumption | omega | (simp only [List.length_cons,List.length_nil,List.length_append,List.length_set,List.length_replicate,List.length_map,List.length_range,List.length_take,List.length_drop,List.all_cons,List.all_nil,AV.isCell,Bool.and_self,Bool.and_true,xAn,xAg,xAh,xAf,xAb,xAa] <;> omega) | rfl | decide) only [List.append_nil,List.length_cons,List.length_nil,Nat.zero_add,Nat.reduceAdd,Nat.reduceSub,pads,List.cons_append,List.nil_append,xBi,xAr,xAl,xAz,xFh,AV.cells,opv,List.getD_cons_zero,List.all_cons,AV.isCell,List.all_nil,Bool.and_self,↓reduceIte,xBj,List.set_cons_succ,List.set_cons_zero,xAy,List.getD_cons_succ,xDQ,xAs,xAx,xAk,xCw,xEv,List.getElem?_cons_zero,xAE,List.drop_zero,List.take_succ_cons,List.take_nil,xC7,xAA,List.getElem?_cons_succ,xBG,beq_self_eq_true,List.map_cons,List.map_nil,fillA,Nat.reduceLeDiff,and_self,splice,List.take_zero,List.drop_succ_cons,Nat.le_refl,List.drop_nil,Option.map_some,xAD,xCZ,xLd,n2,xBa,xDE,xBH,xCz,xCy,xDF,xBd,xIh,xCx,xE6,xDN,xAX,xAR,xAT,xAS,xCC,xBo,xCA,xDO,xD6,xCB,xCE,xCD,xBp]
set_option maxRecDepth 20000 in
set_option maxHeartbeats 2000000 in
theorem xVY (x y : Aut) (hx : TyA x) (hy : TyA y) (k1 : xKJ x = 0) (k2 : xKJ y = 0) (h : xVN x y ≠ 0) : xCG L 30 [x.av,y.av] = some (.tup [zA.av,.int .i64 (xVN x y)],[]) := by
 have hL := xU0 hx hy k1 k2
 have hVx := chkE_zero.1 k1
 have hVy := chkE_zero.1 k2
 have r1 := hVx.rl
 have r2 := hVy.rl
 have s1 := hVx.s0
 have s2 := hVx.s64
 have s3 := hVy.s0
 have s4 := hVy.s64
 unfold xVN at h ⊢
 rw [if_pos k1,if_pos k2] at h ⊢
 change _ = some (AV.tup [.agg [.int .i64 0,.int .i64 0,.sl true 0 [],.sl true 0 [],.sl true 0 []],_],[])
 by_cases k3 : x.vars = y.vars
 ·rw [if_pos k3] at h ⊢
  have e3 : (x.vars = y.vars) = True := eq_true k3
  have e512 : ((512 : Int) < ((x.rl.length + y.rl.length : Nat) : Int)) = (512 < x.rl.length + y.rl.length) := propext ⟨fun h => by omega,fun h => by omega⟩
  by_cases k4 : 64 < x.states + y.states
  ·rw [if_pos (.inl k4)]
   rw [xBI,yEj,a30,xAp]
   simp (maxSteps := 30000000) (disch := first | assumption | omega | (simp only [List.length_cons,List.length_nil,List.length_append,List.length_set,List.length_replicate,List.length_map,List.length_range,List.length_take,List.length_drop,List.all_cons,List.all_nil,AV.isCell,Bool.and_self,Bool.and_true,xAn,xAg,xAh,xAf,xAb,xAa] <;> omega) | rfl | decide) only [List.append_nil,List.length_cons,List.length_nil,Nat.zero_add,Nat.reduceAdd,Nat.reduceSub,pads,List.cons_append,List.nil_append,xBi,xAr,xAl,xAz,xFh,AV.cells,opv,List.getD_cons_zero,List.all_cons,AV.isCell,List.all_nil,Bool.and_self,↓reduceIte,xBj,List.set_cons_succ,List.set_cons_zero,xAy,List.getD_cons_succ,xDQ,xAs,xAx,xAk,xCw,xEv,List.getElem?_cons_zero,xAE,List.drop_zero,List.take_succ_cons,List.take_nil,xC7,xAA,List.getElem?_cons_succ,xBG,beq_self_eq_true,List.map_cons,List.map_nil,fillA,Nat.reduceLeDiff,and_self,splice,List.take_zero,List.drop_succ_cons,Nat.le_refl,List.drop_nil,Option.map_some,xAD,xCZ,xLd,hL,xAQ,xCV,xAW,Nat.add_zero,xE3,xDV,xEz,e3,decide_true,Bool.not_true,xAP,xAv,Bool.false_eq_true,xDS,xLs,xGi,k4,xBb,xAL,Bool.true_eq_false,xGv,xFd,xBc,xBr,xFe,xAN,xAw,xCX,xE2,xBa,xDE,xBH,xCz,xCy,xDF,xBd,xIh,xCx,xE6,xDN,xAX,xAR,xAT,xAS,xCC,xBo,xCA,xDO,xD6,xCB,xCE,xCD,xBp]
  ·by_cases k5 : 512 < x.rl.length + y.rl.length
   ·rw [if_pos (.inr k5)]
    rw [xBI,yEj,a30,xAp]
    simp (maxSteps := 30000000) (disch := first | assumption | omega | (simp only [List.length_cons,List.length_nil,List.length_append,List.length_set,List.length_replicate,List.length_map,List.length_range,List.length_take,List.length_drop,List.all_cons,List.all_nil,AV.isCell,Bool.and_self,Bool.and_true,xAn,xAg,xAh,xAf,xAb,xAa] <;> omega) | rfl | decide) only [List.append_nil,List.length_cons,List.length_nil,Nat.zero_add,Nat.reduceAdd,Nat.reduceSub,pads,List.cons_append,List.nil_append,xBi,xAr,xAl,xAz,xFh,AV.cells,opv,List.getD_cons_zero,List.all_cons,AV.isCell,List.all_nil,Bool.and_self,↓reduceIte,xBj,List.set_cons_succ,List.set_cons_zero,xAy,List.getD_cons_succ,xDQ,xAs,xAx,xAk,xCw,xEv,List.getElem?_cons_zero,xAE,List.drop_zero,List.take_succ_cons,List.take_nil,xC7,xAA,List.getElem?_cons_succ,xBG,beq_self_eq_true,List.map_cons,List.map_nil,fillA,Nat.reduceLeDiff,and_self,splice,List.take_zero,List.drop_succ_cons,Nat.le_refl,List.drop_nil,Option.map_some,xAD,xCZ,xLd,hL,xAQ,xCV,xAW,Nat.add_zero,xE3,xDV,xEz,e3,decide_true,Bool.not_true,xAP,xAv,Bool.false_eq_true,xDS,xLs,xGi,k4,decide_false,xBb,xAL,xHu,xGy,xOI,e512,k5,xFd,xBc,xBr,xFe,xAN,xAw,xCX,xE2,xBa,xDE,xBH,xCz,xCy,xDF,xBd,xIh,xCx,xE6,xDN,xAX,xAR,xAT,xAS,xCC,xBo,xCA,xDO,xD6,xCB,xCE,xCD,xBp]
   ·rw [if_neg (by omega)] at h
    exact (h rfl).elim
 ·rw [if_neg k3]
  have e3 : (x.vars = y.vars) = False := eq_false k3
  clear h
  rw [xBI,yEj,a30,xAp]
  simp (maxSteps := 30000000) (disch := first | assumption | omega | (simp only [List.length_cons,List.length_nil,List.length_append,List.length_set,List.length_replicate,List.length_map,List.length_range,List.length_take,List.length_drop,List.all_cons,List.all_nil,AV.isCell,Bool.and_self,Bool.and_true,xAn,xAg,xAh,xAf,xAb,xAa] <;> omega) | rfl | decide) only [List.append_nil,List.length_cons,List.length_nil,Nat.zero_add,Nat.reduceAdd,Nat.reduceSub,pads,List.cons_append,List.nil_append,xBi,xAr,xAl,xAz,xFh,AV.cells,opv,List.getD_cons_zero,List.all_cons,AV.isCell,List.all_nil,Bool.and_self,↓reduceIte,xBj,List.set_cons_succ,List.set_cons_zero,xAy,List.getD_cons_succ,xDQ,xAs,xAx,xAk,xCw,xEv,List.getElem?_cons_zero,xAE,List.drop_zero,List.take_succ_cons,List.take_nil,xC7,xAA,List.getElem?_cons_succ,xBG,beq_self_eq_true,List.map_cons,List.map_nil,fillA,Nat.reduceLeDiff,and_self,splice,List.take_zero,List.drop_succ_cons,Nat.le_refl,List.drop_nil,Option.map_some,xAD,xCZ,xLd,hL,xAQ,xCV,xAW,Nat.add_zero,xE3,xDV,xEz,k3,decide_false,Bool.not_false,xAP,xAv,xBr,xFe,xAN,xAw,xCX,xE2,xBa,xDE,xBH,xCz,xCy,xDF,xBd,xIh,xCx,xE6,xDN,xAX,xAR,xAT,xAS,xCC,xBo,xCA,xDO,xD6,xCB,xCE,xCD,xBp]
structure Four (n k x y : Aut) (H : Heap) : Prop where
 g0 : H[0]? = some (.cells false false n.cells)
 g1 : H[1]? = some (.cells false false k.cells)
 g2 : H[2]? = some (.cells false false x.cells)
 g3 : H[3]? = some (.cells false false y.cells)
noncomputable abbrev RL (i : Int) (H : Heap) := L.loop xWY yFJ ⟨xWZ (.ptr 0 0) (.ptr 1 0) (.bool false) (.ptr 2 0) (.ptr 3 0) (.int .i64 i),H⟩
theorem Four.len {n k x y : Aut} {H : Heap} (h : Four n k x y H) : 4 ≤ H.length := by
 have := (List.getElem?_eq_some_iff.1 h.g3).1
 omega
theorem Four.app {n k x y : Aut} {H : Heap} (h : Four n k x y H) (T : Heap) : Four n k x y (H ++ T) :=
 ⟨xAu h.g0,xAu h.g1,xAu h.g2,xAu h.g3⟩
set_option maxRecDepth 20000 in
set_option maxHeartbeats 2000000 in
theorem xYr {n k x y : Aut} {H : Heap} {i : Int} (hi : i < 2) (hi0 : 0 ≤ i) (h : Four n k x y H) (f1 : L.pcall 12 [n.av] = some x.av) (f2 : L.pcall 12 [k.av] = some y.av) (b1 : L.pcall 25 [x.av,x.av] = some (.bool true)) (b2 : L.pcall 25 [y.av,y.av] = some (.bool true))
  {e : Int} (u1 : xCG L 30 [x.av,y.av] = some (.tup [zA.av,.int .i64 e],[])) (u2 : L.pcall 31 [x.av,y.av] = some (.tup [zA.av,.int .i64 e])) :
  ∃ H',Four n k x y H' ∧ RL i H = RL (i + 1) H' := by
 have hz := xLv zA (by simp) (by simp) (by simp) true true true
 have g0 := fun T => (h.app T).g0
 have g1 := fun T => (h.app T).g1
 have g2 := fun T => (h.app T).g2
 have g3 := fun T => (h.app T).g3
 have k0 := h.g0
 have k1 := h.g1
 have k2 := h.g2
 have k3 := h.g3
 obtain ⟨X,hX⟩ := yDt (H ++ [.cells false false [.int .i64 0,.int .i64 0,.sl true 0 [],.sl true 0 [],.sl true 0 []],.cells false false [.int .i64 0,.int .i64 0,.sl true 0 [],.sl true 0 [],.sl true 0 []]])
 refine ⟨_,(h.app [.cells false false [.int .i64 0,.int .i64 0,.sl true 0 [],.sl true 0 [],.sl true 0 []],.cells false false [.int .i64 0,.int .i64 0,.sl true 0 [],.sl true 0 [],.sl true 0 []]]).app X,?_⟩
 unfold RL
 change _ = some (AV.tup [.agg [.int .i64 0,.int .i64 0,.sl true 0 [],.sl true 0 [],.sl true 0 []],_],[]) at u1
 change _ = some (AV.tup [.agg [.int .i64 0,.int .i64 0,.sl true 0 [],.sl true 0 [],.sl true 0 []],_]) at u2
 change L.pcall 25 [.agg [.int .i64 0,.int .i64 0,.sl true 0 [],.sl true 0 [],.sl true 0 []],.agg [.int .i64 0,.int .i64 0,.sl true 0 [],.sl true 0 [],.sl true 0 []]] = _ at hz
 dsimp only [Aut.av,Aut.cells,iw] at f1 f2 b1 b2 u1 u2 g0 g1 g2 g3 k0 k1 k2 k3
 rw [yCN]
 simp (maxSteps := 30000000) (disch := first | assumption | omega | (simp only [List.length_cons,List.length_nil,List.length_append,List.length_set,List.length_replicate,List.length_map,List.length_range,List.length_take,List.length_drop,List.all_cons,List.all_nil,AV.isCell,Bool.and_self,Bool.and_true,xAn,xAg,xAh,xAf,xAb,xAa] <;> omega) | rfl | decide) only [xWX,xBi,xAr,xAl,xAz,xDQ,opv,List.getD_cons_succ,List.getD_cons_zero,xBj,List.set_cons_succ,List.set_cons_zero,xAy,xDV,xCH,hi,decide_true,xAA,xAs,xAx,xAk,xAP,xAv,↓reduceIte,xBZ,xAD,xCw,xEv,k2,xAE,List.drop_zero,List.take_succ_cons,List.take_nil,xC7,k3,xER,frzN,List.map_cons,List.map_nil,List.flatMap_cons,xFs,xCK,xGF,List.flatMap_nil,List.append_nil,List.mapM_cons,xD7,xBQ,xGe,List.mapM_nil,Option.pure_def,Option.bind_eq_bind,Option.bind_some,Option.map_some,xA9,u1,xES,xCY,xD9,xCJ,fzIds,List.foldl_nil,xH4,xE9,List.getElem?_cons_zero,List.getElem?_cons_succ,xFh,AV.cells,List.all_cons,AV.isCell,List.all_nil,Bool.and_self,xBr,List.length_cons,List.length_nil,Nat.zero_add,Nat.reduceAdd,xFe,xIO,xAN,splice,List.take_zero,List.nil_append,List.drop_succ_cons,List.drop_nil,xJg,xAw,xCX,g2,g3,xEJ,xBu,xBt,u2,xBs,xE0,xAJ,Bool.and_true,Bool.false_eq_true,List.length_append,List.append_assoc,List.cons_append,xLD,xGC,xEo,xAM,xBF,xFZ,xCI,xD3,xBN,xGf,hz,xA8,quietCall,Bool.or_true,xJI,xJH,xHZ,Bool.not_true,xH1,xBl,xAU,xH2,xEz,xGj,xFd,xBc,g0,f1,Bool.and_false,b1,g1,f2,xA7,xBL,adopt,xAm,xBb,xAL,b2,xFc,hX,xAt,xDS,xLs,xAC,xZP]
set_option maxRecDepth 20000 in
set_option maxHeartbeats 2000000 in
theorem xPR {n k x y : Aut} {H : Heap} {i : Int} (hi : i < 2) (hi0 : 0 ≤ i) (h : Four n k x y H) (f1 : L.pcall 12 [n.av] = some x.av) (f2 : L.pcall 12 [k.av] = some y.av) (b1 : L.pcall 25 [x.av,x.av] = some (.bool true)) (b2 : L.pcall 25 [y.av,y.av] = some (.bool true))
  {v s : Int} {S F : List Int} {R : List Rl} {z1 z2 z3 : Bool} (l1 : S.length < 1099511627776) (l2 : F.length < 1099511627776) (l3 : R.length < 1099511627776)
  (u1 : xCG L 30 [x.av,y.av] = some (.tup [.agg [.int .i64 v,.int .i64 s,.own (S.length == 0) 0 0 S.length 1,.own (F.length == 0) 1 0 F.length 1,.own (R.length == 0) 2 0 R.length 5],.int .i64 0],[.cells false (S.length == 0) (xD8 S),.cells false (F.length == 0) (xD8 F),.cells false (R.length == 0) (rls R)]))
  (u2 : L.pcall 31 [x.av,y.av] = some (.tup [(Aut.mk v s z1 S z2 F z3 R).av,.int .i64 0])) :
  ∃ H',Four n k x y H' ∧ RL i H = RL (i + 1) H' := by
 have hz := xLv ⟨v,s,S.length == 0,S,F.length == 0,F,R.length == 0,R⟩ l1 l2 l3 z1 z2 z3
 have g0 := fun T => (h.app T).g0
 have g1 := fun T => (h.app T).g1
 have g2 := fun T => (h.app T).g2
 have g3 := fun T => (h.app T).g3
 have k0 := h.g0
 have k1 := h.g1
 have k2 := h.g2
 have k3 := h.g3
 have hl := h.len
 have e1 : List.take S.length S = S := List.take_length
 have e2 : List.take F.length F = F := List.take_length
 have e3 : List.take (R.length * 5) (rls R) = rls R := List.take_of_length_le (by rw [xAa]; omega)
 generalize (S.length == 0) = y1 at *
 generalize (F.length == 0) = y2 at *
 generalize (R.length == 0) = y3 at *
 let G : Heap := H ++ [.cells false y1 (xD8 S),.cells false y2 (xD8 F),.cells false y3 (rls R),.cells false false [.int .i64 v,.int .i64 s,.own y1 H.length 0 S.length 1,.own y2 (H.length + 1) 0 F.length 1,.own y3 (H.length + 2) 0 R.length 5],.cells false false [.int .i64 v,.int .i64 s,iw z1 S,iw z2 F,.sl z3 R.length (rls R)]]
 obtain ⟨G',hX,hgl,hgk⟩ := yE0 (vi := v) (si := s) (z1 := y1) (z2 := y2) (z3 := y3) (b1 := H.length) (b2 := H.length + 1) (b3 := H.length + 2) (G := G) l1 l2 l3 (xIO ..) (xLD _ _ 1) (xLD _ _ 2) (by omega) (by omega) (by omega)
 have hGl : G.length = H.length + 5 := by simp [G]
 have hF : ∀ b,b < 4 → G'[b]? = H[b]? := fun b hb => by
  rw [hgk b (by omega) (by omega) (by omega) (by omega)]
  exact List.getElem?_append_left (by omega)
 refine ⟨G',⟨(hF 0 (by omega)).trans k0,(hF 1 (by omega)).trans k1,(hF 2 (by omega)).trans k2,(hF 3 (by omega)).trans k3⟩,?_⟩
 unfold RL
 dsimp only [G] at hX
 dsimp only [Aut.av,Aut.cells,iw] at f1 f2 b1 b2 u1 u2 g0 g1 g2 g3 k0 k1 k2 k3 hz hX
 clear hgk hF hGl hgl
 clear_value G
 rw [yCN]
 simp (maxSteps := 30000000) (disch := first | assumption | omega | (simp only [List.length_cons,List.length_nil,List.length_append,List.length_set,List.length_replicate,List.length_map,List.length_range,List.length_take,List.length_drop,List.all_cons,List.all_nil,AV.isCell,Bool.and_self,Bool.and_true,xAn,xAg,xAh,xAf,xAb,xAa] <;> omega) | rfl | decide) only [xWX,xBi,xAr,xAl,xAz,xDQ,opv,List.getD_cons_succ,List.getD_cons_zero,xBj,List.set_cons_succ,List.set_cons_zero,xAy,xDV,xCH,hi,decide_true,xAA,xAs,xAx,xAk,xAP,xAv,↓reduceIte,xBZ,xAD,xCw,xEv,k2,xAE,List.drop_zero,List.take_succ_cons,List.take_nil,xC7,k3,xER,frzN,List.map_cons,List.map_nil,List.flatMap_cons,xFs,xCK,xGF,List.flatMap_nil,List.append_nil,List.mapM_cons,xD7,xBQ,xGe,List.mapM_nil,Option.pure_def,Option.bind_eq_bind,Option.bind_some,Option.map_some,xA9,u1,xES,xCY,xD9,xCJ,Nat.add_zero,fzIds,List.foldl_nil,xH4,xE9,List.getElem?_cons_zero,List.getElem?_cons_succ,xFh,AV.cells,List.all_cons,AV.isCell,List.all_nil,Bool.and_self,List.length_append,List.length_cons,List.length_nil,Nat.zero_add,Nat.reduceAdd,List.append_assoc,List.cons_append,List.nil_append,xBr,xFe,xLD,xAN,splice,List.take_zero,List.drop_succ_cons,List.drop_nil,xGC,xAw,xCX,g2,g3,xEJ,xBu,xBt,u2,xBs,xE0,xAJ,Bool.and_true,Bool.false_eq_true,xEo,xAM,xBF,xFZ,xCI,xD3,xBN,xGf,xDT,xIO,xBR,Nat.mul_one,xDL,e1,xDz,xCU,e2,e3,xFt,hz,xA8,quietCall,xGz,xB2,xFp,xHo,xCO,Bool.true_or,xJI,xJH,xHZ,Bool.not_true,xH1,xBl,xAU,xH2,xEz,xGj,xFd,xBc,g0,f1,Bool.and_false,Bool.or_true,b1,g1,f2,xA7,xBL,adopt,xAm,xBb,xAL,b2,xFc,hX,xAt,xDS,xLs,xAC,xZP]
theorem xSI {n k : Aut} (hb : ∀ e ∈ n.rl,e.p < 256 ∧ e.n < 256) (hbk : ∀ e ∈ k.rl,e.p < 256 ∧ e.n < 256) {H : Heap} {i : Int} (hi : i < 2) (hi0 : 0 ≤ i) (h : Four n k (cpA (fwA n)) (cpA (fwA k)) H) :
  ∃ H',Four n k (cpA (fwA n)) (cpA (fwA k)) H' ∧ RL i H = RL (i + 1) H' := by
 have f1 := xYa n
 have f2 := xYa k
 have hI : TyA (cpA (fwA n)) := ⟨by simp; omega,by simp; omega,by simp; omega,fun e he => hb e (List.mem_of_mem_take he)⟩
 have hJ : TyA (cpA (fwA k)) := ⟨by simp; omega,by simp; omega,by simp; omega,fun e he => hbk e (List.mem_of_mem_take he)⟩
 have r1 : (cpA (fwA n)).st.length ≤ 70 ∧ (cpA (fwA n)).fi.length ≤ 70 ∧ (cpA (fwA n)).rl.length ≤ 520 := ⟨by simp; omega,by simp; omega,by simp; omega⟩
 have r2 : (cpA (fwA k)).st.length ≤ 70 ∧ (cpA (fwA k)).fi.length ≤ 70 ∧ (cpA (fwA k)).rl.length ≤ 520 := ⟨by simp; omega,by simp; omega,by simp; omega⟩
 generalize cpA (fwA n) = x at *
 generalize cpA (fwA k) = y at *
 have b1 := xLv x hI.st hI.fi hI.rl x.z1 x.z2 x.z3
 have b2 := xLv y hJ.st hJ.fi hJ.rl y.z1 y.z2 y.z3
 by_cases hE : xVN x y = 0
 ·obtain ⟨z1,z2,z3,u2⟩ := xX5 x y hI hJ hE
  exact xPR hi hi0 h f1 f2 b1 b2 (by rw [List.length_append,List.length_map]; omega) (by rw [List.length_append,List.length_map]; omega) (by rw [List.length_append,List.length_map]; omega) (xVX x y hI hJ hE) u2
 ·have u2 := xVO x y hI hJ hE
  refine xYr hi hi0 h f1 f2 b1 b2 ?_ u2
  by_cases k1 : xKJ x = 0
  ·by_cases k2 : xKJ y = 0
   ·exact xVY x y hI hJ k1 k2 hE
   ·exact xPI x y hI hJ (.inr k2)
  ·exact xPI x y hI hJ (.inl k1)
theorem xYs (H : Heap) : RL 2 H = some (.exit 0,⟨xWZ (.ptr 0 0) (.ptr 1 0) (.bool false) (.ptr 2 0) (.ptr 3 0) (.int .i64 2),H⟩) := by
 unfold RL
 rw [yCN]
 simp (disch := omega) only [xWX,xBi,xAr,xAl,xAz,xDQ,opv,List.getD_cons_succ,List.getD_cons_zero,xBj,List.set_cons_succ,List.set_cons_zero,xAy,xDV,xCH,Int.lt_irrefl,decide_false,xAA,xAs,xAx,xAk,xAP,xAv,Bool.false_eq_true,↓reduceIte,xDM,xCv,xBn,xZP]
set_option maxRecDepth 20000 in
set_option maxHeartbeats 4000000 in
theorem yIq (n k : Aut) (hb : ∀ e ∈ n.rl,e.p < 256 ∧ e.n < 256) (hbk : ∀ e ∈ k.rl,e.p < 256 ∧ e.n < 256) : L.pcall 4 [n.av,k.av] = some (.bool true) := by
 have f1 := xYa n
 have f2 := xYa k
 obtain ⟨H1,h1,e1⟩ := xSI (H := [.cells false false n.cells,.cells false false k.cells,.cells false false (cpA (fwA n)).cells,.cells false false (cpA (fwA k)).cells]) hb hbk (i := 0) (by omega) (by omega) ⟨rfl,rfl,rfl,rfl⟩
 obtain ⟨H2,h2,e2⟩ := xSI hb hbk (i := 1) (by omega) (by omega) h1
 have hL := e1.trans (e2.trans (xYs H2))
 have hkk := k16
 generalize cpA (fwA n) = x at *
 generalize cpA (fwA k) = y at *
 unfold RL at hL
 clear e1 e2 h1 h2
 dsimp only [Aut.av,Aut.cells,iw] at f1 f2 hL ⊢
 rw [a4p,a4,xAd]
 simp (maxSteps := 30000000) (disch := first | assumption | omega | (simp only [List.length_cons,List.length_nil,List.length_append,List.length_set,List.length_replicate,List.length_map,List.length_range,List.length_take,List.length_drop,List.all_cons,List.all_nil,AV.isCell,Bool.and_self,Bool.and_true,xAn,xAg,xAh,xAf,xAb,xAa] <;> omega) | rfl | decide) only [xAp,List.length_cons,List.length_nil,Nat.zero_add,Nat.reduceAdd,Nat.reduceSub,pads,List.cons_append,List.nil_append,xBi,xAr,xAl,xAz,xFh,AV.cells,opv,List.getD_cons_zero,List.all_cons,AV.isCell,List.all_nil,Bool.and_self,↓reduceIte,xBj,List.set_cons_succ,List.set_cons_zero,xAy,List.getD_cons_succ,xDQ,xAs,xAx,xAk,xEo,List.take_succ_cons,List.take_zero,xAM,xBF,xFZ,xCw,xEv,List.getElem?_cons_zero,xAE,List.drop_zero,List.take_nil,xC7,xAA,xCI,xD3,xBN,xGf,List.map_cons,List.map_nil,xBu,frzN,List.mapM_cons,xD7,xBQ,xGe,List.mapM_nil,Option.pure_def,Option.bind_eq_bind,Option.bind_some,Option.map_some,xBt,f1,xBs,xE0,xAJ,Bool.and_true,Bool.and_false,Bool.false_eq_true,fzIds,List.flatMap_cons,xFs,xCK,xGF,List.flatMap_nil,List.append_nil,List.foldl_nil,xA8,quietCall,Bool.or_true,List.getElem?_cons_succ,f2,xIg,xA7,xBL,List.drop_succ_cons,adopt,xAm,xGv,xBr,xFe,xAN,splice,List.drop_nil,xAw,xCX,xAD,xCZ,xZP,hL,xAQ,xEJ,hkk,xE2,xBH,xDD,xE6,xAX,xBm,xFb]
end Go.Abs.Tree
