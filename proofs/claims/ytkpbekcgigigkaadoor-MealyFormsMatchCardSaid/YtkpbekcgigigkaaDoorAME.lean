/- Minimize: a round of its range. (printed by v24gen.py) -/
import Derived.Test.YtkpbekcgigigkaaDoorAbsBun
import Derived.Test.YtkpbekcgigigkaaDoorAMC
import Derived.Test.YtkpbekcgigigkaaDoorAMA
import Derived.Test.YtkpbekcgigigkaaDoorAbsWalk3
import Derived.Test.YtkpbekcgigigkaaDoorAbsWalk4
namespace Go.Abs.Mealy
open Go Go.Abs
set_option linter.unusedSimpArgs false
set_option linter.unusedVariables false
def rsK : Option (List AV) → Option (List AV) → Bool
 | none,_ => true
 | some _,none => false
 | some cs,some cs' => cs.length == cs'.length && (cs.zip cs').all fun p => xRy 4 p.1 p.2
theorem yCo (H H' : Heap) (p : AV) (n : Nat) : xFz H H' p n = rsK (rd H p n) (rd H' p n) := by
 unfold xFz rsK
 cases rd H p n with
 | none => rfl
 | some a => cases rd H' p n <;> rfl
theorem xQj (R : Rec) (F : List AV) (H : Heap) (z : List AV) (es n : Nat) (ps : List (Nat × Arg)) : xAz R F H (.dslice z es n ps) = xDt H (xAa R F H (.dslice z es n ps)) := xBX _ rfl
theorem xF7 (z : List AV) (es n : Nat) (ps : List (Nat × Arg)) : xAt (.dslice z es n ps) = false := rfl
theorem yDY : rsK (some [.sl true 0 []]) (some [.sl true 0 []]) = true := by rfl
theorem xYP (z : Bool) (i o n e : Nat) : rsK (some [.own z i o n e]) (some [.own z i o n e]) = true := by simp [rsK,xRy]
theorem xRd {f : AV → AV → Bool} : ∀ {cs : List AV},(∀ a ∈ cs,f a a = true) → ((cs.zip cs).all fun p => f p.1 p.2) = true
 | [],_ => rfl
 | a :: cs,h => by
  rw [List.zip_cons_cons,List.all_cons,h a (by simp),xRd (fun b hb => h b (by simp [hb]))]
  rfl
theorem yFQ (d : Nat) (z : Bool) (n : Nat) (l : List Nat) : xRy (d + 2) (.sl z n (bs l)) (.sl z n (bs l)) = true := by
 rw [xRy]
 simp only [beq_self_eq_true,Bool.true_and]
 refine xRd fun a ha => ?_
 obtain ⟨x,_,rfl⟩ := List.mem_map.1 ha
 simp [xRy]
theorem yCp (z : Bool) (n : Nat) (l : List Nat) : rsK (some [.sl z n (bs l)]) (some [.sl z n (bs l)]) = true := by
 have := yFQ 2 z n l
 simp [rsK,this]
theorem xTV (z : Bool) (n : Nat) (l : List (List Nat)) : rsK (some [.sl z n (l.map rowB)]) (some [.sl z n (l.map rowB)]) = true := by
 have h : xRy 4 (.sl z n (l.map rowB)) (.sl z n (l.map rowB)) = true := by
  rw [xRy]
  simp only [beq_self_eq_true,Bool.true_and]
  refine xRd fun a ha => ?_
  obtain ⟨x,_,rfl⟩ := List.mem_map.1 ha
  exact yFQ 1 _ _ _
 simp [rsK,h]
def hbK (R : Rec) (hs : List (Nat × Nat × Nat)) (k : Nat) (rest : List AOper) (s : St) : Option St → Bool
 | none => true
 | some s' => (hs.all fun h => h.2.2 != k || xFz s.H s'.H (s.F.getD h.1 .any) h.2.1) && xB7 R hs (k + 1) rest s'
theorem xJu (R : Rec) (a b : Nat × Nat × Nat) (hs : List (Nat × Nat × Nat)) (k : Nat) (o : AOper) (rest : List AOper) (s : St) : xB7 R (a :: b :: hs) k (o :: rest) s = hbK R (a :: b :: hs) k rest s (xAu R o s) := by
 simp only [xB7,hbK]
 cases xAu R o s <;> rfl
theorem xMd (R : Rec) (hs : List (Nat × Nat × Nat)) (k : Nat) (s : St) : xB7 R hs k [] s = true := rfl
theorem xTW (R : Rec) (hs : List (Nat × Nat × Nat)) (k : Nat) (rest : List AOper) (s s' : St) : hbK R hs k rest s (some s') = ((hs.all fun h => h.2.2 != k || xFz s.H s'.H (s.F.getD h.1 .any) h.2.1) && xB7 R hs (k + 1) rest s') := rfl
abbrev yIf (s0 s3 s4 s7 s8 s10 s11 s12 s13 s14 s15 s16 s17 s18 s19 s20 s21 s22 s23 s24 s25 s26 s27 s28 s29 s30 s31 s32 s33 s34 s35 s36 s37 s38 s39 s40 s41 s42 s43 s44 s45 s46 s47 s48 s49 s50 s51 s52 s53 s54 s55 s56 s57 s58 s59 s60 s61 s62 s63 s64 s65 s66 s67 s68 s69 s70 s71 s72 s73 s74 s75 s76 s77 s78 s79 s80 s81 s82 s83 s84 s85 s86 s87 s88 s89 s90 s91 s92 s93 s94 s95 s96 s97 s98 s99 s100 s101 s102 s103 s104 s105 : AV) : List AV := [s0,.ptr 0 0,.ptr 1 0,s3,s4,.ptr 2 0,.ptr 4 0,s7,s8,.ptr 5 0,s10,s11,s12,s13,s14,s15,s16,s17,s18,s19,s20,s21,s22,s23,s24,s25,s26,s27,s28,s29,s30,s31,s32,s33,s34,s35,s36,s37,s38,s39,s40,s41,s42,s43,s44,s45,s46,s47,s48,s49,s50,s51,s52,s53,s54,s55,s56,s57,s58,s59,s60,s61,s62,s63,s64,s65,s66,s67,s68,s69,s70,s71,s72,s73,s74,s75,s76,s77,s78,s79,s80,s81,s82,s83,s84,s85,s86,s87,s88,s89,s90,s91,s92,s93,s94,s95,s96,s97,s98,s99,s100,s101,s102,s103,s104,s105]
def PM (pn pe : Nat) (R : List Nat) (n : Nat) : Prop := 6 ≤ n ∧ n ≠ 8 ∧ n ≠ 9 ∧ n ≠ pn ∧ n ≠ pe ∧ n ∉ R
def PMp (p pn pe : Nat) (R : List Nat) (n : Nat) : Prop := PM pn pe R n ∧ n ≠ p
def xDf (w : Nat) (l : List Nat) : List AV := l.map fun q => .own false q 0 w 1
theorem xAV (w : Nat) (l : List Nat) : (xDf w l).length = l.length := List.length_map ..
structure MI (M : Ma) (cl : List Nat) (lb : Blk) (pn pe : Nat) (idn ide : List Nat) (G : Heap) (st : Mst) : Prop where
 g0 : G[0]? = some (.cells false false M.cells)
 g2 : G[2]? = some (.cells false false [.sl false cl.length (xAA cl)])
 g3 : G[3]? = some (.cells false false (xAA (spO cl)))
 g4 : G[4]? = some (.cells false false [.own false 3 0 cl.length 1])
 g8 : G[8]? = some (.cells false false [.ptr 5 0])
 gl : G[9]? = some lb
 q : QN (PM pn pe (idn ++ ide)) 5 G st.1
 ln : idn.length = st.2.1.length
 le : ide.length = st.2.2.length
 rn : ∀ j,j < idn.length → G[idn.getD j 0]? = some (.cells false false (xAA (st.2.1.getD j [])))
 re : ∀ j,j < ide.length → G[ide.getD j 0]? = some (.cells false false (bs (st.2.2.getD j [])))
 far : ∀ q ∈ idn ++ ide,10 ≤ q ∧ q ≠ pn ∧ q ≠ pe
 out : (pn = 0 ∧ pe = 0 ∧ st.2.1 = [] ∧ st.2.2 = [] ∧ G[1]? = some (.cells false false [.int .i64 (M.i : Nat),.int .i64 (M.o : Nat),.int .i64 0,.sl true 0 [],.sl true 0 []])) ∨
  (10 ≤ pn ∧ 10 ≤ pe ∧ pn ≠ pe ∧ G[1]? = some (.cells false false [.int .i64 (M.i : Nat),.int .i64 (M.o : Nat),.int .i64 0,.own false pn 0 st.2.1.length 1,.own false pe 0 st.2.2.length 1]) ∧ G[pn]? = some (.cells false false (xDf (two M.i) idn)) ∧ G[pe]? = some (.cells false false (xDf (two M.i) ide)))
theorem QN.mono {P P' : Nat → Prop} {T : Nat} {G G' : Heap} {ks : List Nat} (h : QN P T G ks) (hT : G'[T]? = G[T]?) (hP : ∀ n,n < G.length → P n → P' n ∧ G'[n]? = G[n]?) : QN P' T G' ks := by
 obtain ⟨mv,lv,q1,q2⟩ := h
 refine ⟨mv,lv,by rw [hT,q1],?_⟩
 rcases q2 with q2 | ⟨q,p,e1,e2,p1,p2,m1,m2⟩
 ·exact .inl q2
 ·have a := hP q (xAI m1) p1
  have b := hP p (xAI m2) p2
  exact .inr ⟨q,p,e1,e2,a.1,b.1,by rw [a.2,m1],by rw [b.2,m2]⟩
section
variable (s0 s3 s4 s7 s8 s10 s11 s12 s13 s14 s15 s16 s17 s18 s19 s20 s21 s22 s23 s24 s25 s26 s27 s28 s29 s30 s31 s32 s33 s34 s35 s36 s37 s38 s39 s40 s41 s42 s43 s44 s45 s46 s47 s48 s49 s50 s51 s52 s53 s54 s55 s56 s57 s58 s59 s60 s61 s62 s63 s64 s65 s66 s67 s68 s69 s70 s71 s72 s73 s74 s75 s76 s77 s78 s79 s80 s81 s82 s83 s84 s85 s86 s87 s88 s89 s90 s91 s92 s93 s94 s95 s96 s97 s98 s99 s100 s101 s102 s103 s104 s105 : AV) {M : Ma} {cl : List Nat}
abbrev xHq (st : Nat) (pend : Option AExit) : Blk := .loop st pend (yIf s0 s3 s4 s7 s8 s10 s11 s12 s13 s14 s15 s16 s17 s18 s19 s20 s21 s22 s23 s24 s25 s26 s27 s28 s29 s30 s31 s32 s33 s34 s35 s36 s37 s38 s39 s40 s41 s42 s43 s44 s45 s46 s47 s48 s49 s50 s51 s52 s53 s54 s55 s56 s57 s58 s59 s60 s61 s62 s63 s64 s65 s66 s67 s68 s69 s70 s71 s72 s73 s74 s75 s76 s77 s78 s79 s80 s81 s82 s83 s84 s85 s86 s87 s88 s89 s90 s91 s92 s93 s94 s95 s96 s97 s98 s99 s100 s101 s102 s103 s104 s105) [52,53] xVI yCM
set_option maxHeartbeats 4000000 in
theorem yDZ {k pn pe : Nat} {idn ide : List Nat} {st : Mst} {G : Heap} (hV : Vm M) (hN : Num M cl) (hk : k < st.1.length) (hO : OI M cl k st) (hE : MI M cl (xHq s0 s3 s4 s7 s8 s10 s11 s12 s13 s14 s15 s16 s17 s18 s19 s20 s21 s22 s23 s24 s25 s26 s27 s28 s29 s30 s31 s32 s33 s34 s35 s36 s37 s38 s39 s40 s41 s42 s43 s44 s45 s46 s47 s48 s49 s50 s51 s52 s53 s54 s55 s56 s57 s58 s59 s60 s61 s62 s63 s64 s65 s66 s67 s68 s69 s70 s71 s72 s73 s74 s75 s76 s77 s78 s79 s80 s81 s82 s83 s84 s85 s86 s87 s88 s89 s90 s91 s92 s93 s94 s95 s96 s97 s98 s99 s100 s101 s102 s103 s104 s105 0 none) pn pe idn ide G st) :
  ∃ G' pn' pe' idn' ide',L.icall (.yield 9) [.int .i64 (k : Nat),.int .i64 (st.1.getD k 0 : Nat)] G = some (.bool true,G') ∧ MI M cl (xHq s0 s3 s4 s7 s8 s10 s11 s12 s13 s14 s15 s16 s17 s18 s19 s20 s21 s22 s23 s24 s25 s26 s27 s28 s29 s30 s31 s32 s33 s34 s35 s36 s37 s38 s39 s40 s41 s42 s43 s44 s45 s46 s47 s48 s49 s50 s51 s52 s53 s54 s55 s56 s57 s58 s59 s60 s61 s62 s63 s64 s65 s66 s67 s68 s69 s70 s71 s72 s73 s74 s75 s76 s77 s78 s79 s80 s81 s82 s83 s84 s85 s86 s87 s88 s89 s90 s91 s92 s93 s94 s95 s96 s97 s98 s99 s100 s101 s102 s103 s104 s105 0 none) pn' pe' idn' ide' G' (xNc M cl k st) := by
 obtain ⟨g0,g2,g3,g4,g8,gl,hq,hln,hle',hrn,hre,hfar,ho⟩ := hE
 have hRl : ∀ q ∈ idn ++ ide,q < G.length := by
  intro q hq
  rcases List.mem_append.1 hq with h | h
  ·obtain ⟨j,hj,rfl⟩ := List.getElem_of_mem h
   have := xAI (hrn j hj)
   rwa [List.getD_eq_getElem?_getD,List.getElem?_eq_getElem hj] at this
  ·obtain ⟨j,hj,rfl⟩ := List.getElem_of_mem h
   have := xAI (hre j hj)
   rwa [List.getD_eq_getElem?_getD,List.getElem?_eq_getElem hj] at this
 obtain ⟨hs1,hs2⟩ := (hO.isc _ (xAh (a := 0) hk)).sp hN
 have hc := (hO.isc _ (xAh (a := 0) hk)).lt hN
 have hcl := hN.len
 have hn9 := hV.n9
 have hel := hV.el
 have hle := hO.len hN
 have hrl : (M.next.getD ((spO cl).getD (st.1.getD k 0) 0) []).length = two M.i := hV.rl _ (xAh hs1)
 have hwl : (M.emit.getD ((spO cl).getD (st.1.getD k 0) 0) []).length = two M.i := hV.wl _ (xAh (by rw [hel]; exact hs1))
 have h64 : two M.i ≤ 64 := by have := xCw (show M.i ≤ 6 by have := hV.io; omega); have : two 6 = 64 := rfl; omega
 have hsp : (spO cl).length = cl.length := by unfold spO; rw [xQh,List.length_replicate]
 have hG := xAI gl
 have hrw : ∀ x ∈ M.next.getD ((spO cl).getD (st.1.getD k 0) 0) [],x < cl.length := fun x hx => by rw [hcl]; exact hV.rb _ (xAh hs1) x hx
 unfold xNc
 rw [← xTS]
 generalize hss : (spO cl).getD (st.1.getD k 0) 0 = s at *
 generalize hcc : st.1.getD k 0 = c at *
 generalize hrr : M.next.getD s [] = row at *
 generalize hem : M.emit.getD s [] = er at *
 obtain ⟨G1,e1,e2,e3,e4,e5⟩ := yHb (P := PMp G.length pn pe (idn ++ ide)) (T := 5) (p := G.length) (cb := 2) (cl := cl) (row := row) (s1 := .ptr 0 0) (s2 := .ptr 1 0) (s12 := .int .i64 (s : Nat)) (fun h => by have := h.1.1; omega) (fun h => h.2 rfl) (fun h => by have := h.1.1; omega) (by omega) (by omega) (by omega) (by omega) (by omega) hrw row.length 0 (List.replicate row.length 0,st.1) (G.set 9 (xHq s0 s3 s4 s7 s8 s10 s11 s12 s13 s14 s15 s16 s17 s18 s19 s20 s21 s22 s23 s24 s25 s26 s27 s28 s29 s30 s31 s32 s33 s34 s35 s36 s37 s38 s39 s40 s41 s42 s43 s44 s45 s46 s47 s48 s49 s50 s51 s52 s53 s54 s55 s56 s57 s58 s59 s60 s61 s62 s63 s64 s65 s66 s67 s68 s69 s70 s71 s72 s73 s74 s75 s76 s77 s78 s79 s80 s81 s82 s83 s84 s85 s86 s87 s88 s89 s90 s91 s92 s93 s94 s95 s96 s97 s98 s99 s100 s101 s102 s103 s104 s105 1 none) ++ [.cells false false (xAA (List.replicate row.length 0))]) (by omega) (by simp) (by simp only; omega)
  (by
   intro n hn
   rw [List.length_append,List.length_set,List.length_singleton] at hn
   refine ⟨⟨by omega,by omega,by omega,?_,?_,fun h => by have := hRl n h; omega⟩,by omega⟩
   ·rcases ho with ho | ho
    ·omega
    ·have := xAI ho.2.2.2.2.1; omega
   ·rcases ho with ho | ho
    ·omega
    ·have := xAI ho.2.2.2.2.2; omega)
  (by rw [xD3 (by simp)]; rfl) (by rw [xAZ (by simp; omega),xAS (by omega),g2]) (hq.mono (by rw [xAZ (by simp; omega),xAS (by omega)]) (fun n h1 h2 => ⟨⟨h2,by omega⟩,by rw [xAZ (by simp; omega),xAS (fun e => h2.2.2.1 e.symm)]⟩))
 have hrep : xAA (List.replicate row.length 0) = List.replicate row.length (.int .i64 0) := by unfold xAA; simp
 have hF : (yAP cl row (List.replicate row.length 0,st.1) 0 row.length).1.length = row.length := by rw [xTS,xRb,List.length_map]
 generalize yAP cl row (List.replicate row.length 0,st.1) 0 row.length = rf at *
 obtain ⟨nr,ks'⟩ := rf
 simp only at e2 e3 hF ⊢
 rw [List.length_append,List.length_set,List.length_singleton] at e4
 have keep : ∀ b,b < G.length → ¬ PM pn pe (idn ++ ide) b → b ≠ 5 → b ≠ 9 → G1[b]? = G[b]? := by
  intro b h1 h2 h3 h4
  rw [e5 b (fun h => h2 h.1) h3 (by omega),xAZ (by simp; omega),xAS (by omega)]
 have f0 : G1[0]? = some (.cells false false M.cells) := by rw [keep 0 (by omega) (fun h => by have := h.1; omega) (by omega) (by omega),g0]
 have f2 : G1[2]? = some (.cells false false [.sl false cl.length (xAA cl)]) := by rw [keep 2 (by omega) (fun h => by have := h.1; omega) (by omega) (by omega),g2]
 have f3 : G1[3]? = some (.cells false false (xAA (spO cl))) := by rw [keep 3 (by omega) (fun h => by have := h.1; omega) (by omega) (by omega),g3]
 have f4 : G1[4]? = some (.cells false false [.own false 3 0 cl.length 1]) := by rw [keep 4 (by omega) (fun h => by have := h.1; omega) (by omega) (by omega),g4]
 have f8 : G1[8]? = some (.cells false false [.ptr 5 0]) := by rw [keep 8 (by omega) (fun h => h.2.1 rfl) (by omega) (by omega),g8]
 have f9 : G1[9]? = some (xHq s0 s3 s4 s7 s8 s10 s11 s12 s13 s14 s15 s16 s17 s18 s19 s20 s21 s22 s23 s24 s25 s26 s27 s28 s29 s30 s31 s32 s33 s34 s35 s36 s37 s38 s39 s40 s41 s42 s43 s44 s45 s46 s47 s48 s49 s50 s51 s52 s53 s54 s55 s56 s57 s58 s59 s60 s61 s62 s63 s64 s65 s66 s67 s68 s69 s70 s71 s72 s73 s74 s75 s76 s77 s78 s79 s80 s81 s82 s83 s84 s85 s86 s87 s88 s89 s90 s91 s92 s93 s94 s95 s96 s97 s98 s99 s100 s101 s102 s103 s104 s105 1 none) := by rw [e5 9 (fun h => h.1.2.2.1 rfl) (by omega) (by omega),xAZ (by simp; omega),xCt hG]
 have kn : ∀ j,j < idn.length → G1[idn.getD j 0]? = some (.cells false false (xAA (st.2.1.getD j []))) := by
  intro j hj
  have hm : idn.getD j 0 ∈ idn ++ ide := List.mem_append_left _ (xAh hj)
  have := hfar _ hm
  rw [keep _ (hRl _ hm) (fun h => h.2.2.2.2.2 hm) (by omega) (by omega),hrn j hj]
 have ke : ∀ j,j < ide.length → G1[ide.getD j 0]? = some (.cells false false (bs (st.2.2.getD j []))) := by
  intro j hj
  have hm : ide.getD j 0 ∈ idn ++ ide := List.mem_append_right _ (xAh hj)
  have := hfar _ hm
  rw [keep _ (hRl _ hm) (fun h => h.2.2.2.2.2 hm) (by omega) (by omega),hre j hj]
 have hcl' : c < cl.length := by omega
 have hcsp : c < (spO cl).length := by omega
 have hlen : (xAA nr).length = row.length := by rw [xAy,hF]
 have hw256 : er.length < 1000 := by omega
 have hse : s < M.emit.length := by omega
 have hc72 : xBj L 72 [.sl false er.length (bs er)] = some (.own false 0 0 er.length 1,[.cells false false (bs er)]) := (xX7 er (by omega)).1
 change L.loop xKj xVH ⟨xKk (.ptr 0 0) (.ptr 1 0) (.ptr 2 0) (.ptr 5 0) (.int .i64 (s : Nat)) (.own false G.length 0 row.length 1) (.sl false row.length (xAA row)) (.int .i64 (row.length : Nat)) (.int .i64 0),_⟩ = _ at e1
 have on : (st.2.1 ++ [nr]).length = (idn ++ [G.length]).length := by rw [List.length_append,List.length_append,hln]; rfl
 have oe : (st.2.2 ++ [er]).length = (ide ++ [G1.length + 2]).length := by rw [List.length_append,List.length_append,hle']; rfl
 have sn : xDf (two M.i) idn ++ [.own false G.length 0 row.length 1] = xDf (two M.i) (idn ++ [G.length]) := by unfold xDf; rw [List.map_append,hrl]; rfl
 have se : xDf (two M.i) ide ++ [.own false (G1.length + 2) 0 er.length 1] = xDf (two M.i) (ide ++ [G1.length + 2]) := by unfold xDf; rw [List.map_append,hwl]; rfl
 have fin : ∀ (G2 : Heap) (pn' pe' : Nat) (o : List AV),(∀ b,b < G1.length → b ≠ pn → b ≠ pe → b ≠ 1 → b ≠ 9 → G2[b]? = G1[b]?) → G2[9]? = some (xHq s0 s3 s4 s7 s8 s10 s11 s12 s13 s14 s15 s16 s17 s18 s19 s20 s21 s22 s23 s24 s25 s26 s27 s28 s29 s30 s31 s32 s33 s34 s35 s36 s37 s38 s39 s40 s41 s42 s43 s44 s45 s46 s47 s48 s49 s50 s51 s52 s53 s54 s55 s56 s57 s58 s59 s60 s61 s62 s63 s64 s65 s66 s67 s68 s69 s70 s71 s72 s73 s74 s75 s76 s77 s78 s79 s80 s81 s82 s83 s84 s85 s86 s87 s88 s89 s90 s91 s92 s93 s94 s95 s96 s97 s98 s99 s100 s101 s102 s103 s104 s105 0 none) → G2[G1.length + 2]? = some (.cells false false (bs er)) →
   pn' = G1.length + 1 → pe' = G1.length + 4 → pn ≠ 5 ∧ pn ≠ 8 ∧ (pn < G.length) ∧ pe ≠ 5 ∧ pe ≠ 8 ∧ (pe < G.length) ∧ (pn = 0 ∧ pe = 0 ∨ 10 ≤ pn ∧ 10 ≤ pe) → G2[0]? = G1[0]? →
   G2[1]? = some (.cells false false [.int .i64 (M.i : Nat),.int .i64 (M.o : Nat),.int .i64 0,.own false pn' 0 (st.2.1.length + 1) 1,.own false pe' 0 (st.2.2.length + 1) 1]) → G2[pn']? = some (.cells false false (xDf (two M.i) (idn ++ [G.length]))) → G2[pe']? = some (.cells false false (xDf (two M.i) (ide ++ [G1.length + 2]))) →
   MI M cl (xHq s0 s3 s4 s7 s8 s10 s11 s12 s13 s14 s15 s16 s17 s18 s19 s20 s21 s22 s23 s24 s25 s26 s27 s28 s29 s30 s31 s32 s33 s34 s35 s36 s37 s38 s39 s40 s41 s42 s43 s44 s45 s46 s47 s48 s49 s50 s51 s52 s53 s54 s55 s56 s57 s58 s59 s60 s61 s62 s63 s64 s65 s66 s67 s68 s69 s70 s71 s72 s73 s74 s75 s76 s77 s78 s79 s80 s81 s82 s83 s84 s85 s86 s87 s88 s89 s90 s91 s92 s93 s94 s95 s96 s97 s98 s99 s100 s101 s102 s103 s104 s105 0 none) pn' pe' (idn ++ [G.length]) (ide ++ [G1.length + 2]) G2 (ks',st.2.1 ++ [nr],st.2.2 ++ [er]) := by
  intro G2 pn' pe' o hk h9 hc hpn hpe hb h0 h1 hn he
  subst hpn hpe
  have kk := fun b (hb1 : b < G1.length) (hb2 : b ≠ pn) (hb3 : b ≠ pe) (hb4 : b ≠ 1) (hb5 : b ≠ 9) => hk b hb1 hb2 hb3 hb4 hb5
  refine ⟨by rw [h0,f0],by rw [kk 2 (by omega) (by omega) (by omega) (by omega) (by omega),f2],by rw [kk 3 (by omega) (by omega) (by omega) (by omega) (by omega),f3],by rw [kk 4 (by omega) (by omega) (by omega) (by omega) (by omega),f4],by rw [kk 8 (by omega) (by omega) (by omega) (by omega) (by omega),f8],h9,?_,on.symm,oe.symm,?_,?_,?_,.inr ⟨by omega,by omega,by omega,?_,hn,he⟩⟩
  ·refine e3.mono (kk 5 (by omega) (by omega) (by omega) (by omega) (by omega)) (fun n hn' h => ?_)
   obtain ⟨⟨p1,p2,p3,p4,p5,p6⟩,p7⟩ := h
   refine ⟨⟨p1,p2,p3,?_,?_,fun hm => ?_⟩,kk n hn' p4 p5 (by omega) p3⟩
   ·intro e; omega
   ·intro e; omega
   ·simp only [List.mem_append,List.mem_singleton] at hm
    rcases hm with (hm | hm) | (hm | hm)
    ·exact p6 (List.mem_append_left _ hm)
    ·exact p7 hm
    ·exact p6 (List.mem_append_right _ hm)
    ·omega
  ·intro j hj
   rw [List.length_append,List.length_singleton] at hj
   by_cases cj : j < idn.length
   ·have hm : idn.getD j 0 ∈ idn ++ ide := List.mem_append_left _ (xAh cj)
    have h3 := hfar _ hm
    have z1 : idn.getD j 0 < G1.length := by have := hRl _ hm; omega
    rw [xAQ _ _ _ cj,xAQ _ _ _ (show j < st.2.1.length by omega),kk _ z1 h3.2.1 h3.2.2 (by omega) (by omega),kn j cj]
   ·obtain rfl : j = idn.length := by omega
    rw [xCm]
    have hx := xCm st.2.1 nr []
    rw [← hln] at hx
    rw [hx,kk G.length (by omega) (by omega) (by omega) (by omega) (by omega),e2]
  ·intro j hj
   rw [List.length_append,List.length_singleton] at hj
   by_cases cj : j < ide.length
   ·have hm : ide.getD j 0 ∈ idn ++ ide := List.mem_append_right _ (xAh cj)
    have h3 := hfar _ hm
    have z1 : ide.getD j 0 < G1.length := by have := hRl _ hm; omega
    rw [xAQ _ _ _ cj,xAQ _ _ _ (show j < st.2.2.length by omega),kk _ z1 h3.2.1 h3.2.2 (by omega) (by omega),ke j cj]
   ·obtain rfl : j = ide.length := by omega
    rw [xCm]
    have hx := xCm st.2.2 er []
    rw [← hle'] at hx
    rw [hx,hc]
  ·intro q hq
   simp only [List.mem_append,List.mem_singleton] at hq
   rcases hq with (hq | hq) | (hq | hq)
   ·have := hRl q (List.mem_append_left _ hq)
    have := hfar q (List.mem_append_left _ hq)
    omega
   ·omega
   ·have := hRl q (List.mem_append_right _ hq)
    have := hfar q (List.mem_append_right _ hq)
    omega
   ·omega
  ·rw [h1,List.length_append,List.length_append]; rfl
 unfold Ma.cells at g0 f0
 rw [xGV,xPE (hH := gl) (h1 := rfl) (h2 := rfl) (h3 := rfl)]
 rcases ho with ⟨rfl,rfl,o1,o2,o3⟩ | ⟨o1,o2,o3,o4,o5,o6⟩
 ·have f1 := (keep 1 (by omega) (fun h => by have := h.1; omega) (by omega) (by omega)).trans o3
  have i1 : idn = [] := List.eq_nil_of_length_eq_zero (by rw [hln,o1]; rfl)
  have i2 : ide = [] := List.eq_nil_of_length_eq_zero (by rw [hle',o2]; rfl)
  refine ⟨(G1.set 1 (.cells false false [.int .i64 (M.i : Nat),.int .i64 (M.o : Nat),.int .i64 0,.own false (G1.length + 1) 0 1 1,.own false (G1.length + 4) 0 1 1])).set 9 (xHq s0 s3 s4 s7 s8 s10 s11 s12 s13 s14 s15 s16 s17 s18 s19 s20 s21 s22 s23 s24 s25 s26 s27 s28 s29 s30 s31 s32 s33 s34 s35 s36 s37 s38 s39 s40 s41 s42 s43 s44 s45 s46 s47 s48 s49 s50 s51 s52 s53 s54 s55 s56 s57 s58 s59 s60 s61 s62 s63 s64 s65 s66 s67 s68 s69 s70 s71 s72 s73 s74 s75 s76 s77 s78 s79 s80 s81 s82 s83 s84 s85 s86 s87 s88 s89 s90 s91 s92 s93 s94 s95 s96 s97 s98 s99 s100 s101 s102 s103 s104 s105 0 none) ++ [.cells false false [.own false G.length 0 row.length 1],.cells false false [.own false G.length 0 row.length 1],.cells false false (bs er),.cells false false [.own false (G1.length + 2) 0 er.length 1],.cells false false [.own false (G1.length + 2) 0 er.length 1]],G1.length + 1,G1.length + 4,_,_,?_,fin _ _ _ [] (fun b h1 h2 h3 h4 h5 => by rw [xAZ (by simpa using h1),xAS (by omega),xAS (by omega)]) (by rw [xAZ (by simp; omega),xCt (by simp; omega)]) (by rw [xEO (by simp)]; rfl) rfl rfl (by omega) (by rw [xAZ (by simp; omega),xAS (by omega),xAS (by omega)]) (by rw [xAZ (by simp; omega),xAS (by omega),xCt (by omega),o1,o2]; rfl) (by rw [xEO (by simp),← sn,i1]; rfl) (by rw [xEO (by simp),← se,i2]; rfl)⟩
  simp (maxSteps := 30000000) (disch := first | assumption | omega | (simp only [WL,AV.isCell] <;> omega) | rfl | decide) only [WB,xVJ,xMC,gl,yA9,xRE,xAS,g4,g3,hss,g0,xBU,rowI,hrr,xAl,xAZ,xRD,e1,↓reduceIte,WH,WP,f1,f0,xCf,rowB,hem,xJu,AV.cells,AV.isCell,xTW,yCo,Nat.reduceBNe,yDY,xTV,yCp,Nat.reduceAdd,xD3,Nat.reduceBEq,hc72,xAX,xBq,xA9,xEO,xNg,xCt,xYP,List.set_set,xMd,xCk,f9]
 ·have z5 := xAI o5
  have z6 := xAI o6
  have f1 := (keep 1 (by omega) (fun h => by have := h.1; omega) (by omega) (by omega)).trans o4
  have fn := (keep pn (by omega) (fun h => h.2.2.2.1 rfl) (by omega) (by omega)).trans o5
  have fe := (keep pe (by omega) (fun h => h.2.2.2.2.1 rfl) (by omega) (by omega)).trans o6
  have kn' : st.2.1.length = k := hO.l1
  have ke' : st.2.2.length = k := hO.l2
  have on1 : (xDf (two M.i) idn).length = st.2.1.length := by rw [xAV,hln]
  have on2 : (xDf (two M.i) ide).length = st.2.2.length := by rw [xAV,hle']
  have tn : List.take st.2.1.length (xDf (two M.i) idn) = xDf (two M.i) idn := List.take_of_length_le (by omega)
  have te : List.take st.2.2.length (xDf (two M.i) ide) = xDf (two M.i) ide := List.take_of_length_le (by omega)
  have b1 : (1 != pn) = true := by simp; omega
  have b0 : (0 != pn) = true := by simp; omega
  refine ⟨(((G1.set pn .dead).set pe .dead).set 1 (.cells false false [.int .i64 (M.i : Nat),.int .i64 (M.o : Nat),.int .i64 0,.own false (G1.length + 1) 0 (st.2.1.length + 1) 1,.own false (G1.length + 4) 0 (st.2.2.length + 1) 1])).set 9 (xHq s0 s3 s4 s7 s8 s10 s11 s12 s13 s14 s15 s16 s17 s18 s19 s20 s21 s22 s23 s24 s25 s26 s27 s28 s29 s30 s31 s32 s33 s34 s35 s36 s37 s38 s39 s40 s41 s42 s43 s44 s45 s46 s47 s48 s49 s50 s51 s52 s53 s54 s55 s56 s57 s58 s59 s60 s61 s62 s63 s64 s65 s66 s67 s68 s69 s70 s71 s72 s73 s74 s75 s76 s77 s78 s79 s80 s81 s82 s83 s84 s85 s86 s87 s88 s89 s90 s91 s92 s93 s94 s95 s96 s97 s98 s99 s100 s101 s102 s103 s104 s105 0 none) ++ [.cells false false [.own false G.length 0 row.length 1],.cells false false (xDf (two M.i) idn ++ [.own false G.length 0 row.length 1]),.cells false false (bs er),.cells false false [.own false (G1.length + 2) 0 er.length 1],.cells false false (xDf (two M.i) ide ++ [.own false (G1.length + 2) 0 er.length 1])],G1.length + 1,G1.length + 4,_,_,?_,fin _ _ _ [] (fun b h1 h2 h3 h4 h5 => by rw [xAZ (by simpa using h1),xAS (by omega),xAS (by omega),xAS (by omega),xAS (by omega)]) (by rw [xAZ (by simp; omega),xCt (by simp; omega)]) (by rw [xEO (by simp)]; rfl) rfl rfl (by omega) (by rw [xAZ (by simp; omega),xAS (by omega),xAS (by omega),xAS (by omega),xAS (by omega)]) (by rw [xAZ (by simp; omega),xAS (by omega),xCt (by simp; omega)]) (by rw [xEO (by simp),← sn]; rfl) (by rw [xEO (by simp),← se]; rfl)⟩
  simp (maxSteps := 30000000) (disch := first | assumption | omega | (simp only [WL,AV.isCell] <;> omega) | rfl | decide) only [WB,xVJ,xMC,gl,yA9,xRE,xAS,g4,g3,hss,g0,xBU,rowI,hrr,xAl,xAZ,xRD,e1,↓reduceIte,WH,WP,f1,f0,xCf,rowB,hem,xJu,AV.cells,AV.isCell,xTW,yCo,Nat.reduceBNe,xYP,xTV,yCp,Nat.reduceAdd,xD3,fn,Nat.reduceBEq,xNg,tn,hc72,xAX,xBq,xA9,xEO,fe,te,xCt,List.set_set,xMd,xCk,b1,b0,f9]
end
section
variable {M : Ma} {cl : List Nat} {lb : Blk}
def yD0 (M : Ma) (cl : List Nat) (lb : Blk) : Prop := ∀ (k pn pe : Nat) (idn ide : List Nat) (st : Mst) (G : Heap),k < st.1.length → OI M cl k st → MI M cl lb pn pe idn ide G st →
  ∃ G' pn' pe' idn' ide',L.icall (.yield 9) [.int .i64 (k : Nat),.int .i64 (st.1.getD k 0 : Nat)] G = some (.bool true,G') ∧ MI M cl lb pn' pe' idn' ide' G' (xNc M cl k st)
theorem yFR (hV : Vm M) (hN : Num M cl) (hr : yD0 M cl lb) : ∀ (e k : Nat) (st : Mst) (G : Heap) (pn pe : Nat) (idn ide : List Nat),OI M cl k st → MI M cl lb pn pe idn ide G st → M.next.length < e + k →
  ∃ F' G' pn' pe' idn' ide',L.loop xGS xQS ⟨xGT (.yield 9) (.ptr 8 0) (.int .i64 (k : Nat)),G⟩ = some (.exit 0,⟨F',G'⟩) ∧ MI M cl lb pn' pe' idn' ide' G' (yAS M cl e k st)
 | 0,k,st,G,pn,pe,idn,ide,h,hE,he => by
  have := h.len hN
  have := h.le
  omega
 | e + 1,k,st,G,pn,pe,idn,ide,h,hE,he => by
  have hlen := h.len hN
  have hn9 := hV.n9
  have hle := h.le
  have g8 := hE.g8
  obtain ⟨mv,lv,q1,q2⟩ := hE.q
  have q3 : ∃ p,lv = .own false p 0 st.1.length 1 ∧ G[p]? = some (.cells false false (xAA st.1)) := by
   rcases q2 with ⟨-,-,e0⟩ | ⟨q,p,e1,e2,p1,p2,m1,m2⟩
   ·have := h.pos
    rw [e0] at this
    simp at this
   ·exact ⟨p,e2,m2⟩
  obtain ⟨p,rfl,hpl⟩ := q3
  rw [yAS]
  by_cases hc : k < st.1.length
  ·rw [if_pos hc]
   obtain ⟨G',pn',pe',idn',ide',e1,e2⟩ := hr k pn pe idn ide st G hc h hE
   have hlt : ((k : Nat) : Int) < (st.1.length : Nat) := by omega
   have hn := yFR hV hN hr e (k + 1) _ G' pn' pe' idn' ide' (h.step hV hN hc) e2 (by omega)
   have hst : L.loop xGS xQS ⟨xGT (.yield 9) (.ptr 8 0) (.int .i64 (k : Nat)),G⟩ = L.loop xGS xQS ⟨xGT (.yield 9) (.ptr 8 0) (.int .i64 ((k + 1 : Nat) : Nat)),G'⟩ := by
    rw [yBi]
    simp (maxSteps := 30000000) (disch := first | assumption | omega | (simp only [WL,AV.isCell] <;> omega) | rfl | decide) only [xRZ,WB,g8,q1,hlt,↓reduceIte,hpl,e1,xWc]
   rw [hst]
   exact hn
  ·rw [if_neg hc]
   have hlt : ¬ ((k : Nat) : Int) < (st.1.length : Nat) := by omega
   refine ⟨xGT (.yield 9) (.ptr 8 0) (.int .i64 (k : Nat)),G,pn,pe,idn,ide,?_,hE⟩
   rw [yBi]
   simp (maxSteps := 30000000) (disch := first | assumption | omega | (simp only [WL,AV.isCell] <;> omega) | rfl | decide) only [xRZ,WB,g8,q1,hlt,↓reduceIte,xWc]
end
noncomputable def xCv (H : Heap) : Heap := match L.icall (.func 94 [.ptr 8 0]) [.yield 9] H with
 | some (_,G) => G
 | none => []
theorem yD1 (b0 b1 b2 b3 b4 : Blk) (k : Nat) : L.icall (.func 70 []) [.ptr 5 0,.int .i64 (k : Nat)] [b0,b1,b2,b3,b4,.cells false false [.nilm,.sl true 0 []]] =
  some (.tup [.int .i64 0,.bool true],[b0,b1,b2,b3,b4,.cells false false [.mp 6,.own false 7 0 1 1],.mp (ent kv1 [k] 0),.cells false false (xAA [k])]) := xYD rfl
theorem xTX (d : Nat) (H : Heap) : ∀ l : List (List Nat),(l.map rowI).mapM (frz d H) = some (l.map rowI)
 | [] => rfl
 | r :: l => by
  rw [List.map_cons,List.mapM_cons,xTX d H l]
  unfold rowI
  rw [xLl]
  rfl
theorem xQk (d : Nat) (H : Heap) : ∀ l : List (List Nat),(l.map rowB).mapM (frz d H) = some (l.map rowB)
 | [] => rfl
 | r :: l => by
  rw [List.map_cons,List.mapM_cons,xQk d H l]
  unfold rowB
  rw [xLl]
  rfl
section
variable {M : Ma} {cl : List Nat} {lb : Blk}
abbrev H35 (M : Ma) (cl : List Nat) (lb : Blk) : Heap := [.cells false false [.int .i64 (M.i : Nat),.int .i64 (M.o : Nat),.int .i64 (M.s : Nat),.sl false M.next.length (M.next.map rowI),.sl false M.emit.length (M.emit.map rowB)],.cells false false [.int .i64 (M.i : Nat),.int .i64 (M.o : Nat),.int .i64 0,.sl true 0 [],.sl true 0 []],.cells false false [.sl false cl.length (xAA cl)],.cells false false (xAA (spO cl)),.cells false false [.own false 3 0 cl.length 1],.cells false false [.mp 6,.own false 7 0 1 1],.mp (ent kv1 [cl.getD M.s 0] 0),.cells false false (xAA [cl.getD M.s 0]),.cells false false [.ptr 5 0],lb]
theorem yFS (M : Ma) (cl : List Nat) (lb : Blk) : MI M cl lb 0 0 [] [] (H35 M cl lb) ([cl.getD M.s 0],[],[]) :=
 ⟨rfl,rfl,rfl,rfl,rfl,rfl,⟨.mp 6,.own false 7 0 1 1,rfl,.inr ⟨6,7,rfl,rfl,⟨by omega,by omega,by omega,by omega,by omega,by simp⟩,⟨by omega,by omega,by omega,by omega,by omega,by simp⟩,rfl,rfl⟩⟩,rfl,rfl,fun j hj => by simp at hj,fun j hj => by simp at hj,fun q hq => by simp at hq,.inl ⟨rfl,rfl,rfl,rfl,rfl⟩⟩
structure OwnM (N : Ma) (w : Nat) (G : Heap) (pn pe : Nat) (idn ide : List Nat) : Prop where
 gn : G[pn]? = some (.cells false false (xDf w idn))
 ge : G[pe]? = some (.cells false false (xDf w ide))
 ln : idn.length = N.next.length
 le : ide.length = N.emit.length
 rn : ∀ j,j < idn.length → G[idn.getD j 0]? = some (.cells false false (xAA (N.next.getD j [])))
 re : ∀ j,j < ide.length → G[ide.getD j 0]? = some (.cells false false (bs (N.emit.getD j [])))
 n : 10 ≤ pn
 e : 10 ≤ pe
 far : ∀ q ∈ idn ++ ide,10 ≤ q
theorem OwnM.set {N : Ma} {w pn pe b : Nat} {G : Heap} {idn ide : List Nat} (h : OwnM N w G pn pe idn ide) (hb : b < 10) (x : Blk) : OwnM N w (G.set b x) pn pe idn ide := by
 have hn := h.n
 have he := h.e
 refine ⟨by rw [xAS (by omega),h.gn],by rw [xAS (by omega),h.ge],h.ln,h.le,fun j hj => ?_,fun j hj => ?_,hn,he,h.far⟩
 ·have := h.far _ (List.mem_append_left _ (xAh (a := 0) hj))
  rw [xAS (by omega),h.rn j hj]
 ·have := h.far _ (List.mem_append_right _ (xAh (a := 0) hj))
  rw [xAS (by omega),h.re j hj]
structure Aft (M : Ma) (cl : List Nat) (lb : Blk) (G : Heap) (pn pe : Nat) (idn ide : List Nat) : Prop where
 g1 : G[1]? = some (.cells false false [.int .i64 (M.i : Nat),.int .i64 (M.o : Nat),.int .i64 0,.own false pn 0 (xEP M cl).next.length 1,.own false pe 0 (xEP M cl).emit.length 1])
 gl : G[9]? = some lb
 own : OwnM (xEP M cl) (two M.i) G pn pe idn ide
set_option maxHeartbeats 1000000 in
theorem yHH (hV : Vm M) (hN : Num M cl) (hr : yD0 M cl lb) : L.icall (.func 94 [.ptr 8 0]) [.yield 9] (H35 M cl lb) = some (.tup [],xCv (H35 M cl lb)) ∧ ∃ pn pe idn ide,Aft M cl lb (xCv (H35 M cl lb)) pn pe idn ide := by
 obtain ⟨F',G',pn,pe,idn,ide,e1,e2⟩ := yFR hV hN hr (M.next.length + 1) 0 _ _ 0 0 [] [] (OI.start hV) (yFS M cl lb) (by omega)
 have hw : L.icall (.func 94 [.ptr 8 0]) [.yield 9] (H35 M cl lb) = some (.tup [],G') := by
  generalize H35 M cl lb = H at *
  change L.loop xGS xQS ⟨xGT (.yield 9) (.ptr 8 0) (.int .i64 0),H⟩ = _ at e1
  rw [yH4,a94]
  simp (maxSteps := 30000000) (disch := first | assumption | omega | (simp only [WL,AV.isCell] <;> omega) | rfl | decide) only [WB,Nat.reduceAdd,Nat.reduceSub,xWc,e1,↓reduceIte]
 have ho : xCv (H35 M cl lb) = G' := by unfold xCv; rw [hw]
 rw [ho]
 refine ⟨hw,pn,pe,idn,ide,?_⟩
 have hoi := xRc hV hN
 rcases e2.out with ⟨_,_,a1,_⟩ | ⟨a1,a2,a3,a4,a5,a6⟩
 ·have l1 : (xNd M cl).2.1.length = (xNd M cl).1.length := hoi.l1
  have l2 := hoi.pos
  have : (xNd M cl).2.1 = [] := a1
  rw [this] at l1
  simp at l1
  omega
 ·exact ⟨a4,e2.gl,a5,a6,e2.ln,e2.le,e2.rn,e2.re,a1,a2,fun q hq => (e2.far q hq).1⟩
theorem xQl (hV : Vm M) (hN : Num M cl) (s0 s3 s4 s7 s8 s10 s11 s12 s13 s14 s15 s16 s17 s18 s19 s20 s21 s22 s23 s24 s25 s26 s27 s28 s29 s30 s31 s32 s33 s34 s35 s36 s37 s38 s39 s40 s41 s42 s43 s44 s45 s46 s47 s48 s49 s50 s51 s52 s53 s54 s55 s56 s57 s58 s59 s60 s61 s62 s63 s64 s65 s66 s67 s68 s69 s70 s71 s72 s73 s74 s75 s76 s77 s78 s79 s80 s81 s82 s83 s84 s85 s86 s87 s88 s89 s90 s91 s92 s93 s94 s95 s96 s97 s98 s99 s100 s101 s102 s103 s104 s105 : AV) : yD0 M cl (xHq s0 s3 s4 s7 s8 s10 s11 s12 s13 s14 s15 s16 s17 s18 s19 s20 s21 s22 s23 s24 s25 s26 s27 s28 s29 s30 s31 s32 s33 s34 s35 s36 s37 s38 s39 s40 s41 s42 s43 s44 s45 s46 s47 s48 s49 s50 s51 s52 s53 s54 s55 s56 s57 s58 s59 s60 s61 s62 s63 s64 s65 s66 s67 s68 s69 s70 s71 s72 s73 s74 s75 s76 s77 s78 s79 s80 s81 s82 s83 s84 s85 s86 s87 s88 s89 s90 s91 s92 s93 s94 s95 s96 s97 s98 s99 s100 s101 s102 s103 s104 s105 0 none) := fun k pn pe idn ide st G h1 h2 h3 => yDZ s0 s3 s4 s7 s8 s10 s11 s12 s13 s14 s15 s16 s17 s18 s19 s20 s21 s22 s23 s24 s25 s26 s27 s28 s29 s30 s31 s32 s33 s34 s35 s36 s37 s38 s39 s40 s41 s42 s43 s44 s45 s46 s47 s48 s49 s50 s51 s52 s53 s54 s55 s56 s57 s58 s59 s60 s61 s62 s63 s64 s65 s66 s67 s68 s69 s70 s71 s72 s73 s74 s75 s76 s77 s78 s79 s80 s81 s82 s83 s84 s85 s86 s87 s88 s89 s90 s91 s92 s93 s94 s95 s96 s97 s98 s99 s100 s101 s102 s103 s104 s105 hV hN h1 h2 h3
def pnO (G : Heap) : Nat := match G[1]? with
 | some (Blk.cells _ _ [_,_,_,AV.own _ p _ _ _,_]) => p
 | _ => 0
def peO (G : Heap) : Nat := match G[1]? with
 | some (Blk.cells _ _ [_,_,_,_,AV.own _ p _ _ _]) => p
 | _ => 0
theorem Aft.po {G : Heap} {pn pe : Nat} {idn ide : List Nat} (h : Aft M cl lb G pn pe idn ide) : Aft M cl lb G (pnO G) (peO G) idn ide := by
 have e1 : pnO G = pn := by unfold pnO; rw [h.g1]
 have e2 : peO G = pe := by unfold peO; rw [h.g1]
 rw [e1,e2]
 exact h
theorem yAT {α : Type} (f : α → AV) (l : List α) : List.take l.length (l.map f) = l.map f := List.take_of_length_le (by simp)
set_option maxHeartbeats 4000000 in
theorem xYQ (hV : Vm M) (hN : Num M cl) (h69 : L.pcall 69 [M.av] = some (.sl false cl.length (xAA cl))) (P : Option (AV × Heap) → Prop)
  (hP : ∀ (s0 s3 s4 s7 s8 s10 s11 s12 s13 s14 s15 s16 s17 s18 s19 s20 s21 s22 s23 s24 s25 s26 s27 s28 s29 s30 s31 s32 s33 s34 s35 s36 s37 s38 s39 s40 s41 s42 s43 s44 s45 s46 s47 s48 s49 s50 s51 s52 s53 s54 s55 s56 s57 s58 s59 s60 s61 s62 s63 s64 s65 s66 s67 s68 s69 s70 s71 s72 s73 s74 s75 s76 s77 s78 s79 s80 s81 s82 s83 s84 s85 s86 s87 s88 s89 s90 s91 s92 s93 s94 s95 s96 s97 s98 s99 s100 s101 s102 s103 s104 s105 : AV),P (some (.tup [.agg [.int .i64 (M.i : Nat),.int .i64 (M.o : Nat),.int .i64 0,.own false (pnO (xCv (H35 M cl (xHq s0 s3 s4 s7 s8 s10 s11 s12 s13 s14 s15 s16 s17 s18 s19 s20 s21 s22 s23 s24 s25 s26 s27 s28 s29 s30 s31 s32 s33 s34 s35 s36 s37 s38 s39 s40 s41 s42 s43 s44 s45 s46 s47 s48 s49 s50 s51 s52 s53 s54 s55 s56 s57 s58 s59 s60 s61 s62 s63 s64 s65 s66 s67 s68 s69 s70 s71 s72 s73 s74 s75 s76 s77 s78 s79 s80 s81 s82 s83 s84 s85 s86 s87 s88 s89 s90 s91 s92 s93 s94 s95 s96 s97 s98 s99 s100 s101 s102 s103 s104 s105 0 none)))) 0 (xEP M cl).next.length 1,.own false (peO (xCv (H35 M cl (xHq s0 s3 s4 s7 s8 s10 s11 s12 s13 s14 s15 s16 s17 s18 s19 s20 s21 s22 s23 s24 s25 s26 s27 s28 s29 s30 s31 s32 s33 s34 s35 s36 s37 s38 s39 s40 s41 s42 s43 s44 s45 s46 s47 s48 s49 s50 s51 s52 s53 s54 s55 s56 s57 s58 s59 s60 s61 s62 s63 s64 s65 s66 s67 s68 s69 s70 s71 s72 s73 s74 s75 s76 s77 s78 s79 s80 s81 s82 s83 s84 s85 s86 s87 s88 s89 s90 s91 s92 s93 s94 s95 s96 s97 s98 s99 s100 s101 s102 s103 s104 s105 0 none)))) 0 (xEP M cl).emit.length 1],.int .i64 0],((xCv (H35 M cl (xHq s0 s3 s4 s7 s8 s10 s11 s12 s13 s14 s15 s16 s17 s18 s19 s20 s21 s22 s23 s24 s25 s26 s27 s28 s29 s30 s31 s32 s33 s34 s35 s36 s37 s38 s39 s40 s41 s42 s43 s44 s45 s46 s47 s48 s49 s50 s51 s52 s53 s54 s55 s56 s57 s58 s59 s60 s61 s62 s63 s64 s65 s66 s67 s68 s69 s70 s71 s72 s73 s74 s75 s76 s77 s78 s79 s80 s81 s82 s83 s84 s85 s86 s87 s88 s89 s90 s91 s92 s93 s94 s95 s96 s97 s98 s99 s100 s101 s102 s103 s104 s105 0 none))).set 9 .dead).set 1 (.cells false false [.int .i64 (M.i : Nat),.int .i64 (M.o : Nat),.int .i64 0,.own false (pnO (xCv (H35 M cl (xHq s0 s3 s4 s7 s8 s10 s11 s12 s13 s14 s15 s16 s17 s18 s19 s20 s21 s22 s23 s24 s25 s26 s27 s28 s29 s30 s31 s32 s33 s34 s35 s36 s37 s38 s39 s40 s41 s42 s43 s44 s45 s46 s47 s48 s49 s50 s51 s52 s53 s54 s55 s56 s57 s58 s59 s60 s61 s62 s63 s64 s65 s66 s67 s68 s69 s70 s71 s72 s73 s74 s75 s76 s77 s78 s79 s80 s81 s82 s83 s84 s85 s86 s87 s88 s89 s90 s91 s92 s93 s94 s95 s96 s97 s98 s99 s100 s101 s102 s103 s104 s105 0 none)))) 0 (xEP M cl).next.length 1,.own false (peO (xCv (H35 M cl (xHq s0 s3 s4 s7 s8 s10 s11 s12 s13 s14 s15 s16 s17 s18 s19 s20 s21 s22 s23 s24 s25 s26 s27 s28 s29 s30 s31 s32 s33 s34 s35 s36 s37 s38 s39 s40 s41 s42 s43 s44 s45 s46 s47 s48 s49 s50 s51 s52 s53 s54 s55 s56 s57 s58 s59 s60 s61 s62 s63 s64 s65 s66 s67 s68 s69 s70 s71 s72 s73 s74 s75 s76 s77 s78 s79 s80 s81 s82 s83 s84 s85 s86 s87 s88 s89 s90 s91 s92 s93 s94 s95 s96 s97 s98 s99 s100 s101 s102 s103 s104 s105 0 none)))) 0 (xEP M cl).emit.length 1])))) :
  P (L.icall (.func 35 []) [M.av] []) := by
 have hc := xDv hV
 have hn9 := hV.n9
 have hs := hV.s
 have hcl := hN.len
 have hg := fun s0 s3 s4 s7 s8 s10 s11 s12 s13 s14 s15 s16 s17 s18 s19 s20 s21 s22 s23 s24 s25 s26 s27 s28 s29 s30 s31 s32 s33 s34 s35 s36 s37 s38 s39 s40 s41 s42 s43 s44 s45 s46 s47 s48 s49 s50 s51 s52 s53 s54 s55 s56 s57 s58 s59 s60 s61 s62 s63 s64 s65 s66 s67 s68 s69 s70 s71 s72 s73 s74 s75 s76 s77 s78 s79 s80 s81 s82 s83 s84 s85 s86 s87 s88 s89 s90 s91 s92 s93 s94 s95 s96 s97 s98 s99 s100 s101 s102 s103 s104 s105 => yHH hV hN (xQl hV hN s0 s3 s4 s7 s8 s10 s11 s12 s13 s14 s15 s16 s17 s18 s19 s20 s21 s22 s23 s24 s25 s26 s27 s28 s29 s30 s31 s32 s33 s34 s35 s36 s37 s38 s39 s40 s41 s42 s43 s44 s45 s46 s47 s48 s49 s50 s51 s52 s53 s54 s55 s56 s57 s58 s59 s60 s61 s62 s63 s64 s65 s66 s67 s68 s69 s70 s71 s72 s73 s74 s75 s76 s77 s78 s79 s80 s81 s82 s83 s84 s85 s86 s87 s88 s89 s90 s91 s92 s93 s94 s95 s96 s97 s98 s99 s100 s101 s102 s103 s104 s105)
 have h1 := fun s0 s3 s4 s7 s8 s10 s11 s12 s13 s14 s15 s16 s17 s18 s19 s20 s21 s22 s23 s24 s25 s26 s27 s28 s29 s30 s31 s32 s33 s34 s35 s36 s37 s38 s39 s40 s41 s42 s43 s44 s45 s46 s47 s48 s49 s50 s51 s52 s53 s54 s55 s56 s57 s58 s59 s60 s61 s62 s63 s64 s65 s66 s67 s68 s69 s70 s71 s72 s73 s74 s75 s76 s77 s78 s79 s80 s81 s82 s83 s84 s85 s86 s87 s88 s89 s90 s91 s92 s93 s94 s95 s96 s97 s98 s99 s100 s101 s102 s103 s104 s105 => (hg s0 s3 s4 s7 s8 s10 s11 s12 s13 s14 s15 s16 s17 s18 s19 s20 s21 s22 s23 s24 s25 s26 s27 s28 s29 s30 s31 s32 s33 s34 s35 s36 s37 s38 s39 s40 s41 s42 s43 s44 s45 s46 s47 s48 s49 s50 s51 s52 s53 s54 s55 s56 s57 s58 s59 s60 s61 s62 s63 s64 s65 s66 s67 s68 s69 s70 s71 s72 s73 s74 s75 s76 s77 s78 s79 s80 s81 s82 s83 s84 s85 s86 s87 s88 s89 s90 s91 s92 s93 s94 s95 s96 s97 s98 s99 s100 s101 s102 s103 s104 s105).1
 have h2 : ∀ (s0 s3 s4 s7 s8 s10 s11 s12 s13 s14 s15 s16 s17 s18 s19 s20 s21 s22 s23 s24 s25 s26 s27 s28 s29 s30 s31 s32 s33 s34 s35 s36 s37 s38 s39 s40 s41 s42 s43 s44 s45 s46 s47 s48 s49 s50 s51 s52 s53 s54 s55 s56 s57 s58 s59 s60 s61 s62 s63 s64 s65 s66 s67 s68 s69 s70 s71 s72 s73 s74 s75 s76 s77 s78 s79 s80 s81 s82 s83 s84 s85 s86 s87 s88 s89 s90 s91 s92 s93 s94 s95 s96 s97 s98 s99 s100 s101 s102 s103 s104 s105 : AV),∃ idn ide,Aft M cl (xHq s0 s3 s4 s7 s8 s10 s11 s12 s13 s14 s15 s16 s17 s18 s19 s20 s21 s22 s23 s24 s25 s26 s27 s28 s29 s30 s31 s32 s33 s34 s35 s36 s37 s38 s39 s40 s41 s42 s43 s44 s45 s46 s47 s48 s49 s50 s51 s52 s53 s54 s55 s56 s57 s58 s59 s60 s61 s62 s63 s64 s65 s66 s67 s68 s69 s70 s71 s72 s73 s74 s75 s76 s77 s78 s79 s80 s81 s82 s83 s84 s85 s86 s87 s88 s89 s90 s91 s92 s93 s94 s95 s96 s97 s98 s99 s100 s101 s102 s103 s104 s105 0 none) (xCv (H35 M cl (xHq s0 s3 s4 s7 s8 s10 s11 s12 s13 s14 s15 s16 s17 s18 s19 s20 s21 s22 s23 s24 s25 s26 s27 s28 s29 s30 s31 s32 s33 s34 s35 s36 s37 s38 s39 s40 s41 s42 s43 s44 s45 s46 s47 s48 s49 s50 s51 s52 s53 s54 s55 s56 s57 s58 s59 s60 s61 s62 s63 s64 s65 s66 s67 s68 s69 s70 s71 s72 s73 s74 s75 s76 s77 s78 s79 s80 s81 s82 s83 s84 s85 s86 s87 s88 s89 s90 s91 s92 s93 s94 s95 s96 s97 s98 s99 s100 s101 s102 s103 s104 s105 0 none))) (pnO (xCv (H35 M cl (xHq s0 s3 s4 s7 s8 s10 s11 s12 s13 s14 s15 s16 s17 s18 s19 s20 s21 s22 s23 s24 s25 s26 s27 s28 s29 s30 s31 s32 s33 s34 s35 s36 s37 s38 s39 s40 s41 s42 s43 s44 s45 s46 s47 s48 s49 s50 s51 s52 s53 s54 s55 s56 s57 s58 s59 s60 s61 s62 s63 s64 s65 s66 s67 s68 s69 s70 s71 s72 s73 s74 s75 s76 s77 s78 s79 s80 s81 s82 s83 s84 s85 s86 s87 s88 s89 s90 s91 s92 s93 s94 s95 s96 s97 s98 s99 s100 s101 s102 s103 s104 s105 0 none)))) (peO (xCv (H35 M cl (xHq s0 s3 s4 s7 s8 s10 s11 s12 s13 s14 s15 s16 s17 s18 s19 s20 s21 s22 s23 s24 s25 s26 s27 s28 s29 s30 s31 s32 s33 s34 s35 s36 s37 s38 s39 s40 s41 s42 s43 s44 s45 s46 s47 s48 s49 s50 s51 s52 s53 s54 s55 s56 s57 s58 s59 s60 s61 s62 s63 s64 s65 s66 s67 s68 s69 s70 s71 s72 s73 s74 s75 s76 s77 s78 s79 s80 s81 s82 s83 s84 s85 s86 s87 s88 s89 s90 s91 s92 s93 s94 s95 s96 s97 s98 s99 s100 s101 s102 s103 s104 s105 0 none)))) idn ide := fun s0 s3 s4 s7 s8 s10 s11 s12 s13 s14 s15 s16 s17 s18 s19 s20 s21 s22 s23 s24 s25 s26 s27 s28 s29 s30 s31 s32 s33 s34 s35 s36 s37 s38 s39 s40 s41 s42 s43 s44 s45 s46 s47 s48 s49 s50 s51 s52 s53 s54 s55 s56 s57 s58 s59 s60 s61 s62 s63 s64 s65 s66 s67 s68 s69 s70 s71 s72 s73 s74 s75 s76 s77 s78 s79 s80 s81 s82 s83 s84 s85 s86 s87 s88 s89 s90 s91 s92 s93 s94 s95 s96 s97 s98 s99 s100 s101 s102 s103 s104 s105 => by
  obtain ⟨pn,pe,idn,ide,h⟩ := (hg s0 s3 s4 s7 s8 s10 s11 s12 s13 s14 s15 s16 s17 s18 s19 s20 s21 s22 s23 s24 s25 s26 s27 s28 s29 s30 s31 s32 s33 s34 s35 s36 s37 s38 s39 s40 s41 s42 s43 s44 s45 s46 s47 s48 s49 s50 s51 s52 s53 s54 s55 s56 s57 s58 s59 s60 s61 s62 s63 s64 s65 s66 s67 s68 s69 s70 s71 s72 s73 s74 s75 s76 s77 s78 s79 s80 s81 s82 s83 s84 s85 s86 s87 s88 s89 s90 s91 s92 s93 s94 s95 s96 s97 s98 s99 s100 s101 s102 s103 s104 s105).2
  exact ⟨idn,ide,h.po⟩
 clear hg
 have hgl : ∀ (s0 s3 s4 s7 s8 s10 s11 s12 s13 s14 s15 s16 s17 s18 s19 s20 s21 s22 s23 s24 s25 s26 s27 s28 s29 s30 s31 s32 s33 s34 s35 s36 s37 s38 s39 s40 s41 s42 s43 s44 s45 s46 s47 s48 s49 s50 s51 s52 s53 s54 s55 s56 s57 s58 s59 s60 s61 s62 s63 s64 s65 s66 s67 s68 s69 s70 s71 s72 s73 s74 s75 s76 s77 s78 s79 s80 s81 s82 s83 s84 s85 s86 s87 s88 s89 s90 s91 s92 s93 s94 s95 s96 s97 s98 s99 s100 s101 s102 s103 s104 s105 : AV),(xCv (H35 M cl (xHq s0 s3 s4 s7 s8 s10 s11 s12 s13 s14 s15 s16 s17 s18 s19 s20 s21 s22 s23 s24 s25 s26 s27 s28 s29 s30 s31 s32 s33 s34 s35 s36 s37 s38 s39 s40 s41 s42 s43 s44 s45 s46 s47 s48 s49 s50 s51 s52 s53 s54 s55 s56 s57 s58 s59 s60 s61 s62 s63 s64 s65 s66 s67 s68 s69 s70 s71 s72 s73 s74 s75 s76 s77 s78 s79 s80 s81 s82 s83 s84 s85 s86 s87 s88 s89 s90 s91 s92 s93 s94 s95 s96 s97 s98 s99 s100 s101 s102 s103 s104 s105 0 none)))[9]? = some (xHq s0 s3 s4 s7 s8 s10 s11 s12 s13 s14 s15 s16 s17 s18 s19 s20 s21 s22 s23 s24 s25 s26 s27 s28 s29 s30 s31 s32 s33 s34 s35 s36 s37 s38 s39 s40 s41 s42 s43 s44 s45 s46 s47 s48 s49 s50 s51 s52 s53 s54 s55 s56 s57 s58 s59 s60 s61 s62 s63 s64 s65 s66 s67 s68 s69 s70 s71 s72 s73 s74 s75 s76 s77 s78 s79 s80 s81 s82 s83 s84 s85 s86 s87 s88 s89 s90 s91 s92 s93 s94 s95 s96 s97 s98 s99 s100 s101 s102 s103 s104 s105 0 none) := fun s0 s3 s4 s7 s8 s10 s11 s12 s13 s14 s15 s16 s17 s18 s19 s20 s21 s22 s23 s24 s25 s26 s27 s28 s29 s30 s31 s32 s33 s34 s35 s36 s37 s38 s39 s40 s41 s42 s43 s44 s45 s46 s47 s48 s49 s50 s51 s52 s53 s54 s55 s56 s57 s58 s59 s60 s61 s62 s63 s64 s65 s66 s67 s68 s69 s70 s71 s72 s73 s74 s75 s76 s77 s78 s79 s80 s81 s82 s83 s84 s85 s86 s87 s88 s89 s90 s91 s92 s93 s94 s95 s96 s97 s98 s99 s100 s101 s102 s103 s104 s105 => by
  obtain ⟨idn,ide,h⟩ := h2 s0 s3 s4 s7 s8 s10 s11 s12 s13 s14 s15 s16 s17 s18 s19 s20 s21 s22 s23 s24 s25 s26 s27 s28 s29 s30 s31 s32 s33 s34 s35 s36 s37 s38 s39 s40 s41 s42 s43 s44 s45 s46 s47 s48 s49 s50 s51 s52 s53 s54 s55 s56 s57 s58 s59 s60 s61 s62 s63 s64 s65 s66 s67 s68 s69 s70 s71 s72 s73 s74 s75 s76 s77 s78 s79 s80 s81 s82 s83 s84 s85 s86 s87 s88 s89 s90 s91 s92 s93 s94 s95 s96 s97 s98 s99 s100 s101 s102 s103 s104 s105
  exact h.gl
 have r2 : ∀ (s0 s3 s4 s7 s8 s10 s11 s12 s13 s14 s15 s16 s17 s18 s19 s20 s21 s22 s23 s24 s25 s26 s27 s28 s29 s30 s31 s32 s33 s34 s35 s36 s37 s38 s39 s40 s41 s42 s43 s44 s45 s46 s47 s48 s49 s50 s51 s52 s53 s54 s55 s56 s57 s58 s59 s60 s61 s62 s63 s64 s65 s66 s67 s68 s69 s70 s71 s72 s73 s74 s75 s76 s77 s78 s79 s80 s81 s82 s83 s84 s85 s86 s87 s88 s89 s90 s91 s92 s93 s94 s95 s96 s97 s98 s99 s100 s101 s102 s103 s104 s105 : AV),((xCv (H35 M cl (xHq s0 s3 s4 s7 s8 s10 s11 s12 s13 s14 s15 s16 s17 s18 s19 s20 s21 s22 s23 s24 s25 s26 s27 s28 s29 s30 s31 s32 s33 s34 s35 s36 s37 s38 s39 s40 s41 s42 s43 s44 s45 s46 s47 s48 s49 s50 s51 s52 s53 s54 s55 s56 s57 s58 s59 s60 s61 s62 s63 s64 s65 s66 s67 s68 s69 s70 s71 s72 s73 s74 s75 s76 s77 s78 s79 s80 s81 s82 s83 s84 s85 s86 s87 s88 s89 s90 s91 s92 s93 s94 s95 s96 s97 s98 s99 s100 s101 s102 s103 s104 s105 0 none))).set 9 .dead)[1]? = some (.cells false false [.int .i64 (M.i : Nat),.int .i64 (M.o : Nat),.int .i64 0,.own false (pnO (xCv (H35 M cl (xHq s0 s3 s4 s7 s8 s10 s11 s12 s13 s14 s15 s16 s17 s18 s19 s20 s21 s22 s23 s24 s25 s26 s27 s28 s29 s30 s31 s32 s33 s34 s35 s36 s37 s38 s39 s40 s41 s42 s43 s44 s45 s46 s47 s48 s49 s50 s51 s52 s53 s54 s55 s56 s57 s58 s59 s60 s61 s62 s63 s64 s65 s66 s67 s68 s69 s70 s71 s72 s73 s74 s75 s76 s77 s78 s79 s80 s81 s82 s83 s84 s85 s86 s87 s88 s89 s90 s91 s92 s93 s94 s95 s96 s97 s98 s99 s100 s101 s102 s103 s104 s105 0 none)))) 0 (xEP M cl).next.length 1,.own false (peO (xCv (H35 M cl (xHq s0 s3 s4 s7 s8 s10 s11 s12 s13 s14 s15 s16 s17 s18 s19 s20 s21 s22 s23 s24 s25 s26 s27 s28 s29 s30 s31 s32 s33 s34 s35 s36 s37 s38 s39 s40 s41 s42 s43 s44 s45 s46 s47 s48 s49 s50 s51 s52 s53 s54 s55 s56 s57 s58 s59 s60 s61 s62 s63 s64 s65 s66 s67 s68 s69 s70 s71 s72 s73 s74 s75 s76 s77 s78 s79 s80 s81 s82 s83 s84 s85 s86 s87 s88 s89 s90 s91 s92 s93 s94 s95 s96 s97 s98 s99 s100 s101 s102 s103 s104 s105 0 none)))) 0 (xEP M cl).emit.length 1]) := fun s0 s3 s4 s7 s8 s10 s11 s12 s13 s14 s15 s16 s17 s18 s19 s20 s21 s22 s23 s24 s25 s26 s27 s28 s29 s30 s31 s32 s33 s34 s35 s36 s37 s38 s39 s40 s41 s42 s43 s44 s45 s46 s47 s48 s49 s50 s51 s52 s53 s54 s55 s56 s57 s58 s59 s60 s61 s62 s63 s64 s65 s66 s67 s68 s69 s70 s71 s72 s73 s74 s75 s76 s77 s78 s79 s80 s81 s82 s83 s84 s85 s86 s87 s88 s89 s90 s91 s92 s93 s94 s95 s96 s97 s98 s99 s100 s101 s102 s103 s104 s105 => by
  obtain ⟨idn,ide,h⟩ := h2 s0 s3 s4 s7 s8 s10 s11 s12 s13 s14 s15 s16 s17 s18 s19 s20 s21 s22 s23 s24 s25 s26 s27 s28 s29 s30 s31 s32 s33 s34 s35 s36 s37 s38 s39 s40 s41 s42 s43 s44 s45 s46 s47 s48 s49 s50 s51 s52 s53 s54 s55 s56 s57 s58 s59 s60 s61 s62 s63 s64 s65 s66 s67 s68 s69 s70 s71 s72 s73 s74 s75 s76 s77 s78 s79 s80 s81 s82 s83 s84 s85 s86 s87 s88 s89 s90 s91 s92 s93 s94 s95 s96 s97 s98 s99 s100 s101 s102 s103 s104 s105
  rw [xAS (by omega),h.g1]
 have r3 : ∀ (s0 s3 s4 s7 s8 s10 s11 s12 s13 s14 s15 s16 s17 s18 s19 s20 s21 s22 s23 s24 s25 s26 s27 s28 s29 s30 s31 s32 s33 s34 s35 s36 s37 s38 s39 s40 s41 s42 s43 s44 s45 s46 s47 s48 s49 s50 s51 s52 s53 s54 s55 s56 s57 s58 s59 s60 s61 s62 s63 s64 s65 s66 s67 s68 s69 s70 s71 s72 s73 s74 s75 s76 s77 s78 s79 s80 s81 s82 s83 s84 s85 s86 s87 s88 s89 s90 s91 s92 s93 s94 s95 s96 s97 s98 s99 s100 s101 s102 s103 s104 s105 : AV) (a : Blk),(((xCv (H35 M cl (xHq s0 s3 s4 s7 s8 s10 s11 s12 s13 s14 s15 s16 s17 s18 s19 s20 s21 s22 s23 s24 s25 s26 s27 s28 s29 s30 s31 s32 s33 s34 s35 s36 s37 s38 s39 s40 s41 s42 s43 s44 s45 s46 s47 s48 s49 s50 s51 s52 s53 s54 s55 s56 s57 s58 s59 s60 s61 s62 s63 s64 s65 s66 s67 s68 s69 s70 s71 s72 s73 s74 s75 s76 s77 s78 s79 s80 s81 s82 s83 s84 s85 s86 s87 s88 s89 s90 s91 s92 s93 s94 s95 s96 s97 s98 s99 s100 s101 s102 s103 s104 s105 0 none))).set 9 .dead).set 1 a)[1]? = some a := fun s0 s3 s4 s7 s8 s10 s11 s12 s13 s14 s15 s16 s17 s18 s19 s20 s21 s22 s23 s24 s25 s26 s27 s28 s29 s30 s31 s32 s33 s34 s35 s36 s37 s38 s39 s40 s41 s42 s43 s44 s45 s46 s47 s48 s49 s50 s51 s52 s53 s54 s55 s56 s57 s58 s59 s60 s61 s62 s63 s64 s65 s66 s67 s68 s69 s70 s71 s72 s73 s74 s75 s76 s77 s78 s79 s80 s81 s82 s83 s84 s85 s86 s87 s88 s89 s90 s91 s92 s93 s94 s95 s96 s97 s98 s99 s100 s101 s102 s103 s104 s105 a => xCt (by have := xAI (hgl s0 s3 s4 s7 s8 s10 s11 s12 s13 s14 s15 s16 s17 s18 s19 s20 s21 s22 s23 s24 s25 s26 s27 s28 s29 s30 s31 s32 s33 s34 s35 s36 s37 s38 s39 s40 s41 s42 s43 s44 s45 s46 s47 s48 s49 s50 s51 s52 s53 s54 s55 s56 s57 s58 s59 s60 s61 s62 s63 s64 s65 s66 s67 s68 s69 s70 s71 s72 s73 s74 s75 s76 s77 s78 s79 s80 s81 s82 s83 s84 s85 s86 s87 s88 s89 s90 s91 s92 s93 s94 s95 s96 s97 s98 s99 s100 s101 s102 s103 s104 s105); simp only [List.length_set]; omega)
 clear h2
 have hsm := yFP (s1 := .ptr 0 0) (s2 := .ptr 1 0) (s5 := .ptr 2 0) (p := 3) (b := 4) (show cl.length < 1099511627 by omega) rfl (fun x hx => by rw [hcl]; exact hN.lt x hx) (by omega) cl.length 0 (List.replicate cl.length 0) [.cells false false M.cells,.cells false false [.int .i64 0,.int .i64 0,.int .i64 0,.sl true 0 [],.sl true 0 []],.cells false false [.sl false cl.length (xAA cl)],.cells false false (xAA (List.replicate cl.length 0)),.cells false false [.own false 3 0 cl.length 1]] (by omega) (by simp) rfl rfl
 rw [show xJt cl (List.replicate cl.length 0) 0 cl.length = spO cl from rfl] at hsm
 simp only [List.set_cons_succ,List.set_cons_zero] at hsm
 have hlt : M.s < cl.length := by omega
 unfold Ma.av at hc h69 ⊢
 unfold Ma.cells at hc h69 hsm ⊢
 change L.loop xKh xVF ⟨xKi (.ptr 0 0) (.ptr 1 0) (.ptr 2 0) (.ptr 4 0) (.sl false cl.length (xAA cl)) (.int .i64 (cl.length : Nat)) (.int .i64 0),_⟩ = _ at hsm
 rw [yHn,a35]
 simp (maxSteps := 30000000) (disch := first | assumption | omega | (simp only [WL,AV.isCell] <;> omega) | rfl | decide) only [WB,Nat.reduceSub,AV.cells,AV.isCell,↓reduceIte,hc,xBL,xAF,h69,Nat.reduceAdd,xAl,xVG,hsm,xAc,xCk,Nat.reduceLeDiff,yD1,yHY,a71,h1,hgl,r2,r3]
 apply hP
theorem xYR (hV : Vm M) (hN : Num M cl) (h69 : L.pcall 69 [M.av] = some (.sl false cl.length (xAA cl))) : ∃ G pn pe idn ide,L.icall (.func 35 []) [M.av] [] = some (.tup [.agg [.int .i64 (M.i : Nat),.int .i64 (M.o : Nat),.int .i64 0,.own false pn 0 (xEP M cl).next.length 1,.own false pe 0 (xEP M cl).emit.length 1],.int .i64 0],G) ∧ OwnM (xEP M cl) (two M.i) G pn pe idn ide := by
 refine xYQ hV hN h69 (fun r => ∃ G pn pe idn ide,r = some (.tup [.agg [.int .i64 (M.i : Nat),.int .i64 (M.o : Nat),.int .i64 0,.own false pn 0 (xEP M cl).next.length 1,.own false pe 0 (xEP M cl).emit.length 1],.int .i64 0],G) ∧ OwnM (xEP M cl) (two M.i) G pn pe idn ide) ?_
 intro s0 s3 s4 s7 s8 s10 s11 s12 s13 s14 s15 s16 s17 s18 s19 s20 s21 s22 s23 s24 s25 s26 s27 s28 s29 s30 s31 s32 s33 s34 s35 s36 s37 s38 s39 s40 s41 s42 s43 s44 s45 s46 s47 s48 s49 s50 s51 s52 s53 s54 s55 s56 s57 s58 s59 s60 s61 s62 s63 s64 s65 s66 s67 s68 s69 s70 s71 s72 s73 s74 s75 s76 s77 s78 s79 s80 s81 s82 s83 s84 s85 s86 s87 s88 s89 s90 s91 s92 s93 s94 s95 s96 s97 s98 s99 s100 s101 s102 s103 s104 s105
 obtain ⟨pn,pe,idn,ide,h⟩ := (yHH hV hN (xQl hV hN s0 s3 s4 s7 s8 s10 s11 s12 s13 s14 s15 s16 s17 s18 s19 s20 s21 s22 s23 s24 s25 s26 s27 s28 s29 s30 s31 s32 s33 s34 s35 s36 s37 s38 s39 s40 s41 s42 s43 s44 s45 s46 s47 s48 s49 s50 s51 s52 s53 s54 s55 s56 s57 s58 s59 s60 s61 s62 s63 s64 s65 s66 s67 s68 s69 s70 s71 s72 s73 s74 s75 s76 s77 s78 s79 s80 s81 s82 s83 s84 s85 s86 s87 s88 s89 s90 s91 s92 s93 s94 s95 s96 s97 s98 s99 s100 s101 s102 s103 s104 s105)).2
 exact ⟨_,_,_,idn,ide,rfl,(h.po.own.set (by omega) _).set (by omega) _⟩
theorem yHc {K : Nat} (hV : Vm M) (hn : M.next.length ≤ 100) (hC : Cls M K) : Num M (clK M (K + 1)) := by
 refine ⟨xFf M (K + 1),?_,fun s t hs ht => yDW hV hn hC hs ht⟩
 intro x hx
 obtain ⟨s,hs,rfl⟩ := List.getElem_of_mem hx
 have hs' : s < M.next.length := by rw [xFf] at hs; exact hs
 have h1 := xJp M (clK M K) hs'
 have h2 := xM9 M (clK M K)
 have hs2 : s < (xMa M (clK M K)).2.length := hs
 have h3 : (xMa M (clK M K)).2.getD s 0 = (xMa M (clK M K)).2[s]'hs2 := by
  rw [List.getD_eq_getElem?_getD,List.getElem?_eq_getElem hs2]
  rfl
 rw [h3] at h1
 exact Nat.lt_of_lt_of_le h1 h2
theorem xRe (hV : Vm M) (hn : M.next.length ≤ 100) : ∃ cl,Num M cl ∧ ∃ G pn pe idn ide,L.icall (.func 35 []) [M.av] [] = some (.tup [.agg [.int .i64 (M.i : Nat),.int .i64 (M.o : Nat),.int .i64 0,.own false pn 0 (xEP M cl).next.length 1,.own false pe 0 (xEP M cl).emit.length 1],.int .i64 0],G) ∧ OwnM (xEP M cl) (two M.i) G pn pe idn ide := by
 obtain ⟨K,hC,h⟩ := xYJ hV hn
 have hN := yHc hV hn hC
 have hl : (clK M (K + 1)).length = M.next.length := hN.len
 exact ⟨_,hN,xYR hV hN (by rw [h,hl])⟩
set_option maxHeartbeats 1000000 in
theorem xJv {m : Mf} (hS : Sm m) (h : xEI m ≠ 0) : ∃ G,L.icall (.func 35 []) [m.av] [] = some (.tup [.agg [.int .i64 0,.int .i64 0,.int .i64 0,.sl true 0 [],.sl true 0 []],.int .i64 (xEI m)],G) := by
 have hc := xJl hS
 unfold Mf.av at hc ⊢
 unfold Mf.cells at hc ⊢
 generalize xEI m = e at *
 refine ⟨[.cells false false [.int .i64 m.i,.int .i64 m.o,.int .i64 m.s,.sl m.z m.next.length (m.next.map rwV),.sl m.ze m.emit.length (m.emit.map wdV)],.cells false false [.int .i64 0,.int .i64 0,.int .i64 0,.sl true 0 [],.sl true 0 []]],?_⟩
 rw [yHn,a35]
 simp (maxSteps := 30000000) (disch := first | assumption | omega | (simp only [WL,AV.isCell] <;> omega) | rfl | decide) only [WB,Nat.reduceSub,AV.cells,AV.isCell,↓reduceIte,hc,xBL,xAF,h,Nat.reduceAdd]
end
theorem xYS {w : Nat} {ids : List Nat} {i : Nat} (h : i < ids.length) : List.take 1 (List.drop i (xDf w ids)) = [.own false (ids.getD i 0) 0 w 1] := xDK (fun q => AV.own false q 0 w 1) 0 h
theorem xQm {H : Heap} {k : Nat} {b : Blk} (h : H[k]? = some b) : H.set k b = H := by
 obtain ⟨h1,h2⟩ := List.getElem?_eq_some_iff.1 h
 rw [← h2,List.set_getElem_self]
theorem yHd {k n : Nat} (hn : n < 1099511627776) : ∀ e i B (G : Heap),i + e = n → B.length = n → G[k]? = some (.cells false false B) →
  L.loop xNZ xZK ⟨xN0 (.own false k 0 n 1) (.int .i64 (i : Nat)),G⟩ = some (.exit 0,⟨xN0 (.own false k 0 n 1) (.int .i64 (n : Nat)),G.set k (.cells false false (B.take i ++ List.replicate e (.int .u8 201)))⟩) := by
 intro e
 induction e with
 | zero =>
  intro i B G h hB hG
  obtain rfl : i = n := by omega
  rw [List.replicate_zero,List.append_nil,List.take_of_length_le (by omega),xQm hG,xVD]
  simp (maxSteps := 30000000) (disch := first | assumption | omega | (simp only [WL,AV.isCell,xAV] <;> omega) | rfl | decide) only [xNY,WB,↓reduceIte,xRz]
 | succ e ih =>
  intro i B G h hB hG
  have hlt : (i : Int) < (n : Nat) := by omega
  have hlt' : i < B.length := by omega
  have hk := xAI hG
  have ih' := ih (i + 1) (B.set i (.int .u8 201)) (G.set k (.cells false false (B.set i (.int .u8 201)))) (by omega) (by simpa using hB) (List.getElem?_set_self hk)
  have e1 : (B.set i (.int .u8 201)).take (i + 1) ++ List.replicate e (.int .u8 201) = B.take i ++ List.replicate (e + 1) (.int .u8 201) := by
   rw [List.take_add_one,List.getElem?_set_self hlt',List.take_set_of_le (Nat.le_refl _),List.replicate_succ]
   simp
  rw [List.set_set,e1] at ih'
  have e2 : List.take i B ++ (.int .u8 201) :: List.drop (i + 1) B = B.set i (.int .u8 201) := xDs B i (.int .u8 201) hlt'
  rw [xVD]
  simp (maxSteps := 30000000) (disch := first | assumption | omega | (simp only [WL,AV.isCell,xAV] <;> omega) | rfl | decide) only [xNY,WB,hlt,↓reduceIte,AV.cells,hG,e2,xRz,ih']
noncomputable def yD2 (a n : Nat) (H : Heap) : Option Blk → Option (AV × Heap)
 | some (.cells false false B) => if B.length = n ∧ n < 1099511627776 then some (.tup [],H.set a (.cells false false (List.replicate n (.int .u8 201)))) else L.icall (.func 26 []) [.own false a 0 n 1] H
 | _ => L.icall (.func 26 []) [.own false a 0 n 1] H
theorem yHI (a n : Nat) (H : Heap) : L.icall (.func 26 []) [.own false a 0 n 1] H = yD2 a n H H[a]? := by
 unfold yD2
 split
 ·rename_i B hB
  split
  ·rename_i hc
   have h := yHd (k := a) hc.2 n 0 B H (by omega) hc.1 hB
   rw [List.take_zero,List.nil_append] at h
   simp only [Int.natCast_zero] at h
   rw [yHm,a26]
   simp (maxSteps := 30000000) (disch := first | assumption | omega | (simp only [WL,AV.isCell,xAV] <;> omega) | rfl | decide) only [WB,Nat.reduceSub,xRz,h,↓reduceIte]
  ·rfl
 ·rfl
theorem xMe {a n : Nat} {H : Heap} {B : List AV} (h : B.length = n) (h2 : n < 1099511627776) : yD2 a n H (some (.cells false false B)) = some (.tup [],H.set a (.cells false false (List.replicate n (.int .u8 201)))) := by
 show (if B.length = n ∧ n < 1099511627776 then _ else _) = _
 rw [if_pos ⟨h,h2⟩]
theorem yFT (H : Heap) : L.icall (.func 26 []) [.sl true 0 []] H = some (.tup [],H) := by
 rw [yHm,a26]
 simp (maxSteps := 30000000) (disch := first | assumption | omega | (simp only [WL,AV.isCell,xAV] <;> omega) | rfl | decide) only [WB,Nat.reduceSub,xRz,xVD,xNY,↓reduceIte]
theorem yHe {k n : Nat} (hn : n < 1099511627776) : ∀ e i B (G : Heap),i + e = n → B.length = n → G[k]? = some (.cells false false B) →
  L.loop xN1 xZL ⟨xN2 (.own false k 0 n 1) (.int .i64 (i : Nat)),G⟩ = some (.exit 0,⟨xN2 (.own false k 0 n 1) (.int .i64 (n : Nat)),G.set k (.cells false false (B.take i ++ List.replicate e (.int .i64 (-77))))⟩) := by
 intro e
 induction e with
 | zero =>
  intro i B G h hB hG
  obtain rfl : i = n := by omega
  rw [List.replicate_zero,List.append_nil,List.take_of_length_le (by omega),xQm hG,yA6]
  simp (maxSteps := 30000000) (disch := first | assumption | omega | (simp only [WL,AV.isCell,xAV] <;> omega) | rfl | decide) only [xRA,Int.reduceNeg,WB,↓reduceIte,xVE]
 | succ e ih =>
  intro i B G h hB hG
  have hlt : (i : Int) < (n : Nat) := by omega
  have hlt' : i < B.length := by omega
  have hk := xAI hG
  have ih' := ih (i + 1) (B.set i (.int .i64 (-77))) (G.set k (.cells false false (B.set i (.int .i64 (-77))))) (by omega) (by simpa using hB) (List.getElem?_set_self hk)
  have e1 : (B.set i (.int .i64 (-77))).take (i + 1) ++ List.replicate e (.int .i64 (-77)) = B.take i ++ List.replicate (e + 1) (.int .i64 (-77)) := by
   rw [List.take_add_one,List.getElem?_set_self hlt',List.take_set_of_le (Nat.le_refl _),List.replicate_succ]
   simp
  rw [List.set_set,e1] at ih'
  have e2 : List.take i B ++ (.int .i64 (-77)) :: List.drop (i + 1) B = B.set i (.int .i64 (-77)) := xDs B i (.int .i64 (-77)) hlt'
  rw [yA6]
  simp (maxSteps := 30000000) (disch := first | assumption | omega | (simp only [WL,AV.isCell,xAV] <;> omega) | rfl | decide) only [xRA,Int.reduceNeg,WB,hlt,↓reduceIte,AV.cells,hG,e2,xVE,ih']
noncomputable def yD3 (a n : Nat) (H : Heap) : Option Blk → Option (AV × Heap)
 | some (.cells false false B) => if B.length = n ∧ n < 1099511627776 then some (.tup [],H.set a (.cells false false (List.replicate n (.int .i64 (-77))))) else L.icall (.func 27 []) [.own false a 0 n 1] H
 | _ => L.icall (.func 27 []) [.own false a 0 n 1] H
theorem yIg (a n : Nat) (H : Heap) : L.icall (.func 27 []) [.own false a 0 n 1] H = yD3 a n H H[a]? := by
 unfold yD3
 split
 ·rename_i B hB
  split
  ·rename_i hc
   have h := yHe (k := a) hc.2 n 0 B H (by omega) hc.1 hB
   rw [List.take_zero,List.nil_append] at h
   simp only [Int.natCast_zero] at h
   rw [yHN,a27]
   simp (maxSteps := 30000000) (disch := first | assumption | omega | (simp only [WL,AV.isCell,xAV] <;> omega) | rfl | decide) only [WB,Nat.reduceSub,xVE,h,Int.reduceNeg,↓reduceIte]
  ·rfl
 ·rfl
theorem xUK {a n : Nat} {H : Heap} {B : List AV} (h : B.length = n) (h2 : n < 1099511627776) : yD3 a n H (some (.cells false false B)) = some (.tup [],H.set a (.cells false false (List.replicate n (.int .i64 (-77))))) := by
 show (if B.length = n ∧ n < 1099511627776 then _ else _) = _
 rw [if_pos ⟨h,h2⟩]
def Rows (G : Heap) (w : Nat) (ids : List Nat) : Prop := ∀ q ∈ ids,∃ cs : List AV,cs.length = w ∧ G[q]? = some (.cells false false cs)
section
variable {p w : Nat} {ids : List Nat}
theorem xYT (hw : w < 1099511627776) (hl : ids.length < 1099511627776) (hp : p ∉ ids) : ∀ e i (G : Heap),i + e = ids.length → G[p]? = some (.cells false false (xDf w ids)) → Rows G w ids →
  ∃ G',L.loop xKv xVR ⟨xH6 (.own false p 0 ids.length 1) (.int .i64 (i : Nat)),G⟩ = some (.exit 0,⟨xH6 (.own false p 0 ids.length 1) (.int .i64 (ids.length : Nat)),G'⟩) ∧ (∀ b,b ∉ ids → G'[b]? = G[b]?) ∧ G'.length = G.length ∧ Rows G' w ids
 | 0,i,G,he,h1,h2 => by
  obtain rfl : i = ids.length := by omega
  refine ⟨G,?_,fun _ _ => rfl,rfl,h2⟩
  rw [xVS]
  simp (maxSteps := 30000000) (disch := first | assumption | omega | (simp only [WL,AV.isCell,xAV] <;> omega) | rfl | decide) only [xOf,WB,↓reduceIte,xOg]
 | e + 1,i,G,he,h1,h2 => by
  have hi : i < ids.length := by omega
  have c' : ((i : Nat) : Int) < (ids.length : Nat) := by omega
  have hm : ids.getD i 0 ∈ ids := xAh hi
  obtain ⟨cs,l1,g1⟩ := h2 _ hm
  have ho := yIg (ids.getD i 0) w G
  rw [g1,xUK l1 hw] at ho
  have hlt := xAI g1
  have hR : Rows (G.set (ids.getD i 0) (.cells false false (List.replicate w (.int .i64 (-77))))) w ids := by
   intro q hq
   by_cases c : ids.getD i 0 = q
   ·exact ⟨_,List.length_replicate,by rw [← c,xCt hlt]⟩
   ·obtain ⟨cs,a,b⟩ := h2 q hq
    exact ⟨cs,a,by rw [xAS c,b]⟩
  obtain ⟨G',e1,e2,e3,e4⟩ := xYT hw hl hp e (i + 1) _ (by omega) (by rw [xAS (fun q => hp (by rw [← q]; exact hm)),h1]) hR
  refine ⟨G',?_,fun b hb => (e2 b hb).trans (xAS (fun q => hb (by rw [← q]; exact hm))),by rw [e3,List.length_set],e4⟩
  rw [xVS]
  simp (maxSteps := 30000000) (disch := first | assumption | omega | (simp only [WL,AV.isCell,xAV] <;> omega) | rfl | decide) only [xOf,WB,c',↓reduceIte,h1,xYS,ho,Int.reduceNeg,xOg,e1]
theorem yFU (hw : w < 1099511627776) (hl : ids.length < 1099511627776) (hp : p ∉ ids) {G : Heap} (h1 : G[p]? = some (.cells false false (xDf w ids))) (h2 : Rows G w ids) :
  ∃ G',L.icall (.func 39 []) [.own false p 0 ids.length 1] G = some (.tup [],G') ∧ (∀ b,b ∉ ids → G'[b]? = G[b]?) ∧ G'.length = G.length ∧ Rows G' w ids := by
 obtain ⟨G',e1,e2⟩ := xYT hw hl hp ids.length 0 G (by omega) h1 h2
 simp only [Int.natCast_zero] at e1
 refine ⟨G',?_,e2⟩
 rw [yHp,a39]
 simp (maxSteps := 30000000) (disch := first | assumption | omega | (simp only [WL,AV.isCell,xAV] <;> omega) | rfl | decide) only [WB,Nat.reduceSub,xOg,e1,↓reduceIte]
theorem xYU (hw : w < 1099511627776) (hl : ids.length < 1099511627776) (hp : p ∉ ids) : ∀ e i (G : Heap),i + e = ids.length → G[p]? = some (.cells false false (xDf w ids)) → Rows G w ids →
  ∃ G',L.loop xKw xVT ⟨xH7 (.own false p 0 ids.length 1) (.int .i64 (i : Nat)),G⟩ = some (.exit 0,⟨xH7 (.own false p 0 ids.length 1) (.int .i64 (ids.length : Nat)),G'⟩) ∧ (∀ b,b ∉ ids → G'[b]? = G[b]?) ∧ G'.length = G.length ∧ Rows G' w ids
 | 0,i,G,he,h1,h2 => by
  obtain rfl : i = ids.length := by omega
  refine ⟨G,?_,fun _ _ => rfl,rfl,h2⟩
  rw [xVU]
  simp (maxSteps := 30000000) (disch := first | assumption | omega | (simp only [WL,AV.isCell,xAV] <;> omega) | rfl | decide) only [xOh,WB,↓reduceIte,xOi]
 | e + 1,i,G,he,h1,h2 => by
  have hi : i < ids.length := by omega
  have c' : ((i : Nat) : Int) < (ids.length : Nat) := by omega
  have hm : ids.getD i 0 ∈ ids := xAh hi
  obtain ⟨cs,l1,g1⟩ := h2 _ hm
  have ho := yHI (ids.getD i 0) w G
  rw [g1,xMe l1 hw] at ho
  have hlt := xAI g1
  have hR : Rows (G.set (ids.getD i 0) (.cells false false (List.replicate w (.int .u8 201)))) w ids := by
   intro q hq
   by_cases c : ids.getD i 0 = q
   ·exact ⟨_,List.length_replicate,by rw [← c,xCt hlt]⟩
   ·obtain ⟨cs,a,b⟩ := h2 q hq
    exact ⟨cs,a,by rw [xAS c,b]⟩
  obtain ⟨G',e1,e2,e3,e4⟩ := xYU hw hl hp e (i + 1) _ (by omega) (by rw [xAS (fun q => hp (by rw [← q]; exact hm)),h1]) hR
  refine ⟨G',?_,fun b hb => (e2 b hb).trans (xAS (fun q => hb (by rw [← q]; exact hm))),by rw [e3,List.length_set],e4⟩
  rw [xVU]
  simp (maxSteps := 30000000) (disch := first | assumption | omega | (simp only [WL,AV.isCell,xAV] <;> omega) | rfl | decide) only [xOh,WB,c',↓reduceIte,h1,xYS,ho,xOi,e1]
theorem yFV (hw : w < 1099511627776) (hl : ids.length < 1099511627776) (hp : p ∉ ids) {G : Heap} (h1 : G[p]? = some (.cells false false (xDf w ids))) (h2 : Rows G w ids) :
  ∃ G',L.icall (.func 40 []) [.own false p 0 ids.length 1] G = some (.tup [],G') ∧ (∀ b,b ∉ ids → G'[b]? = G[b]?) ∧ G'.length = G.length ∧ Rows G' w ids := by
 obtain ⟨G',e1,e2⟩ := xYU hw hl hp ids.length 0 G (by omega) h1 h2
 simp only [Int.natCast_zero] at e1
 refine ⟨G',?_,e2⟩
 rw [yHq,a40]
 simp (maxSteps := 30000000) (disch := first | assumption | omega | (simp only [WL,AV.isCell,xAV] <;> omega) | rfl | decide) only [WB,Nat.reduceSub,xOi,e1,↓reduceIte]
theorem yD4 (H : Heap) : L.icall (.func 39 []) [.sl true 0 []] H = some (.tup [],H) := by
 have hl : L.loop xKv xVR ⟨xH6 (.sl true 0 []) (.int .i64 0),H⟩ = some (.exit 0,⟨xH6 (.sl true 0 []) (.int .i64 0),H⟩) := by
  rw [xVS]
  simp (maxSteps := 30000000) (disch := first | assumption | omega | (simp only [WL,AV.isCell,xAV] <;> omega) | rfl | decide) only [xOf,WB,↓reduceIte,xOg]
 rw [yHp,a39]
 simp (maxSteps := 30000000) (disch := first | assumption | omega | (simp only [WL,AV.isCell,xAV] <;> omega) | rfl | decide) only [WB,Nat.reduceSub,xOg,hl,↓reduceIte]
theorem yD5 (H : Heap) : L.icall (.func 40 []) [.sl true 0 []] H = some (.tup [],H) := by
 have hl : L.loop xKw xVT ⟨xH7 (.sl true 0 []) (.int .i64 0),H⟩ = some (.exit 0,⟨xH7 (.sl true 0 []) (.int .i64 0),H⟩) := by
  rw [xVU]
  simp (maxSteps := 30000000) (disch := first | assumption | omega | (simp only [WL,AV.isCell,xAV] <;> omega) | rfl | decide) only [xOh,WB,↓reduceIte,xOi]
 rw [yHq,a40]
 simp (maxSteps := 30000000) (disch := first | assumption | omega | (simp only [WL,AV.isCell,xAV] <;> omega) | rfl | decide) only [WB,Nat.reduceSub,xOi,hl,↓reduceIte]
end
end Go.Abs.Mealy
