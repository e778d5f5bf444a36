/- classes: numbering the rows. -/
import Derived.Test.YtdkbhidfiplncaaAbsBun
import Derived.Test.YtdkbhidfiplncaaAMB
import Derived.Test.YtdkbhidfiplncaaAbsWalk3
namespace Go.Abs.Det
open Go Go.Abs
set_option linter.unusedSimpArgs false
set_option linter.unusedVariables false
def xLK (k : List Nat) : List (List Nat) → Nat → Option Nat
 | [],_ => none
 | k' :: ks,i => if k = k' then some i else xLK k ks (i + 1)
def xLL : List (List Nat) → Nat → List (AV × AV)
 | [],_ => []
 | k :: ks,i => (yBq k,.int .i64 (i : Nat)) :: xLL ks (i + 1)
theorem xMD : ∀ (ks : List (List Nat)) (i : Nat),(xLL ks i).length = ks.length
 | [],_ => rfl
 | k :: ks,i => by rw [xLL,List.length_cons,List.length_cons,xMD ks]
theorem xQz (k : List Nat) : ∀ (ks : List (List Nat)) (i : Nat),xLL (ks ++ [k]) i = xLL ks i ++ [(yBq k,.int .i64 ((i + ks.length : Nat) : Int))]
 | [],i => rfl
 | k' :: ks,i => by
  rw [List.cons_append,xLL,xLL,xQz k ks (i + 1),List.length_cons,List.cons_append]
  congr 4
  rw [show i + 1 + ks.length = i + (ks.length + 1) by omega]
def Byt (k : List Nat) : Prop := ∀ x ∈ k,x < 256
theorem xQA {k : List Nat} (hk : Byt k) : ∀ (ks : List (List Nat)) (i : Nat),(∀ k' ∈ ks,Byt k') → xFO (yBq k) (xLL ks i) = some ((xLK k ks i).map fun (j : Nat) => AV.int .i64 (j : Nat))
 | [],i,_ => rfl
 | k' :: ks,i,h => by
  simp only [xLL,xFO,xYF hk (h k' (by simp)),xLK]
  by_cases c : k = k'
  ·simp [c]
  ·simp only [c,decide_false]
   rw [xQA hk ks (i + 1) (fun q hq => h q (by simp [hq]))]
   simp
theorem xUx {k : List Nat} {v : AV} (hk : Byt k) : ∀ (ks : List (List Nat)) (i : Nat),(∀ k' ∈ ks,Byt k') → xLK k ks i = none → xTU (yBq k) v (xLL ks i) = some (xLL ks i ++ [(yBq k,v)])
 | [],i,_,_ => rfl
 | k' :: ks,i,h,hn => by
  unfold xLK at hn
  split at hn
  ·cases hn
  rename_i c
  simp only [xLL,xTU,xYF hk (h k' (by simp)),c,decide_false]
  rw [xUx hk ks (i + 1) (fun q hq => h q (by simp [hq])) hn]
  rfl
def xBX (key : Nat → List Nat) : Nat → Nat → List (List Nat) → List Nat × List (List Nat)
 | _,0,seen => ([],seen)
 | s,e + 1,seen => match xLK (key s) seen 0 with
  | some j => (j :: (xBX key (s + 1) e seen).1,(xBX key (s + 1) e seen).2)
  | none => (seen.length :: (xBX key (s + 1) e (seen ++ [key s])).1,(xBX key (s + 1) e (seen ++ [key s])).2)
theorem xRz {a b : List Nat} (ha : Byt a) (hb : Byt b) : Byt (a ++ b) := fun x hx => (List.mem_append.1 hx).elim (ha x) (hb x)
theorem xME {D : Da} {cls : List Int} (hC : ClsOk D cls) (t : Int) : Byt (xCI cls t) := by
 intro x hx
 simp only [xCI,List.mem_cons,List.not_mem_nil,or_false] at hx
 rcases hx with rfl | rfl
 ·omega
 ·by_cases h : t.toNat < cls.length
  ·have := hC.bd _ (xAl (a := (0 : Int)) h); omega
  ·rw [List.getD_eq_getElem?_getD,List.getElem?_eq_none (by omega)]; decide
theorem xUy {α : Type} {f : α → List Nat} {l : List α} (h : ∀ a ∈ l,Byt (f a)) : Byt (l.flatMap f) := fun x hx => by
 obtain ⟨a,ha,hx⟩ := List.mem_flatMap.1 hx
 exact h a ha x hx
theorem yFi {D : Da} {cls : List Int} (hC : ClsOk D cls) (s : Nat) : Byt (xFU D cls s) := by
 refine xRz (xRz ?_ (xME hC _)) (xUy fun q _ => xUy fun x _ => xRz (xME hC _) (xME hC _))
 intro x hx
 unfold fbB at hx
 split at hx <;> simp at hx <;> omega
theorem xRA (D : Da) (cls : List Int) (s : Nat) : (xFU D cls s).length = (fbB (D.fin.getD s false)).length + 2 + 4 * two D.vars * D.next.length := by
 unfold xFU
 rw [List.length_append,List.length_append,xYG]; rfl
theorem yG4 (b : Bool) : (fbB b).length ≤ 5 := by cases b <;> decide
def xAO (l : List Nat) : List Int := l.map fun (j : Nat) => (j : Int)
set_option maxHeartbeats 1000000 in
theorem yBU {D : Da} {cls : List Int} {s3 : AV} {m nb B : Nat} (hV : Va D) (hC : ClsOk D cls) (hm : m < B) (hn : nb < B) (hmn : m ≠ nb) : ∀ e s G done seen,s + e = D.next.length → Base D cls G B → done.length = s →
  (∀ cb,G[1]? = some (.cells false false [.own false cb 0 cls.length 1]) → cb ≠ m ∧ cb ≠ nb) → 1 < m → 1 < nb → (∀ k ∈ seen,Byt k) →
  G[m]? = some (.mp (xLL seen 0)) → G[nb]? = some (.cells false false (ints (xAO done ++ List.replicate e 0))) →
  ∃ G',L.loop xJR xV6 ⟨xHa (.ptr 0 0) (.ptr 1 0) s3 (.mp m) (.own false nb 0 D.next.length 1) (.int .i64 (D.next.length : Nat)) (.int .i64 (s : Nat)),G⟩ =
   some (.exit 2,⟨xHa (.ptr 0 0) (.ptr 1 0) s3 (.mp m) (.own false nb 0 D.next.length 1) (.int .i64 (D.next.length : Nat)) (.int .i64 (D.next.length : Nat)),G'⟩) ∧
   G'[0]? = some (.cells false false D.cells) ∧ G'[1]? = G[1]? ∧ G.length ≤ G'.length ∧
   G'[m]? = some (.mp (xLL (xBX (xFU D cls) s e seen).2 0)) ∧ G'[nb]? = some (.cells false false (ints (xAO (done ++ (xBX (xFU D cls) s e seen).1)))) := by
 intro e
 induction e with
 | zero =>
  intro s G done seen h hB hd hcb' m1 n1 hse hGm hGn
  obtain rfl : s = D.next.length := by omega
  have n64 := hV.n64
  refine ⟨G,?_,hB.b0,rfl,Nat.le_refl _,hGm,by simpa [xBX] using hGn⟩
  rw [xV7]
  simp (maxSteps := 30000000) (disch := first | assumption | omega | (simp only [WL,AV.isCell,xAa] <;> omega) | rfl | decide) only [xNF,WB,↓reduceIte,xNG]
 | succ e ih =>
  intro s G done seen h hB hd hcb' m1 n1 hse hGm hGn
  have n64 := hV.n64
  have h8 := (xAV hV.v3).1
  have hlt : (s : Int) < (D.next.length : Nat) := by omega
  have hfl := hV.fl
  have hle := hB.le
  have htw := hB.two
  obtain ⟨cb,cb1,cb2,cb3⟩ := hB.b1
  obtain ⟨cm,cn⟩ := hcb' cb cb1
  have hfb := yIn (D.fin.getD s false)
  obtain ⟨fc1,fc2⟩ := yBr (D.fin.getD s false)
  have hfl5 := yG4 (D.fin.getD s false)
  have hkl := xRA D cls s
  have hmul : two D.vars * D.next.length ≤ 8 * 64 := Nat.mul_le_mul h8 n64
  have hmul2 : 4 * two D.vars * D.next.length = 4 * (two D.vars * D.next.length) := Nat.mul_assoc ..
  have hbyt := yFi hC s
  generalize hfbv : fbB (D.fin.getD s false) = fb at *
  have hB1 : Base D cls (G ++ [.cells false false (bs fb),.cells false false [.own false G.length 0 fb.length 1]]) G.length :=
   ⟨xAw hB.b0,⟨cb,xAw cb1,xAw cb2,by omega⟩,by omega,by simp⟩
  have hR1 : yEN (G ++ [.cells false false (bs fb),.cells false false [.own false G.length 0 fb.length 1]]) G.length (G.length + 1) fb := ⟨G.length,xLW _ _ 1,xJo _ _,Nat.le_refl _,by omega⟩
  obtain ⟨G1,n1',n2',n3',n4'⟩ := yEO (t := (s : Int)) hC n64 hB1 hR1 (by omega) (by omega) (by omega)
  have hB2 := hB1.step n3' n4'
  obtain ⟨G2,q1,q2,q3,q4⟩ := yEQ (s3 := s3) (s4 := .mp m) (s5 := .own false nb 0 D.next.length 1) (s22 := .int .i64 (D.next.length : Nat)) (s23 := .int .i64 (s : Nat)) hV hC (s := s) (by omega) (by omega) D.next.length 0 G1 _ (by omega) hB2 n2' (by simp [xCI]; omega)
  have hkey : fb ++ xCI cls (s : Int) ++ ntA D cls s 0 D.next.length = xFU D cls s := by unfold xFU; rw [hfbv]
  rw [hkey] at q2
  have old : ∀ b,b < G.length → G2[b]? = G[b]? := fun b hb => by
   rw [q3 b hb,n3' b hb,List.getElem?_append_left hb]
  obtain ⟨rb,r1,r2,r3,r4⟩ := q2
  have y1 : G1[1]? = some (.cells false false [.own false cb 0 D.next.length 1]) := by
   rw [n3' 1 (by omega),List.getElem?_append_left (by omega),cb1,hC.len]
  have z0 := (old 0 (by omega)).trans hB.b0
  have z1 := old 1 (by omega)
  have zm := (old m (by omega)).trans hGm
  have zn := (old nb (by omega)).trans hGn
  have zc := (old cb (by omega)).trans cb2
  have hL2 : G.length ≤ G2.length := by simp at n4'; omega
  have hsetj : ∀ j : Nat,(xAO done ++ List.replicate (e + 1) 0).set s (j : Int) = xAO (done ++ [j]) ++ List.replicate e 0 := fun j => by
   have hdl : (xAO done).length = s := by simp [xAO,hd]
   rw [List.set_append_right _ _ (by omega),hdl,Nat.sub_self]
   simp [xAO,List.replicate_succ]
  have hcl : (xAO done ++ List.replicate (e + 1) (0 : Int)).length = D.next.length := by simp [xAO,hd]; omega
  have hfind := xQA hbyt seen 0 hse
  have htk : List.take (xFU D cls s).length (bs (xFU D cls s)) = bs (xFU D cls s) := List.take_of_length_le (by rw [xCk]; exact Nat.le_refl _)
  simp only [Int.natCast_zero] at q1
  have hcell0 := hB.b0
  unfold Da.cells at hcell0
  unfold yBq at hfind
  have cont : ∀ (j : Nat) (seen' : List (List Nat)) (G3 : xAc),(∀ k ∈ seen',Byt k) → G3[m]? = some (.mp (xLL seen' 0)) → G3 = G2.set m (.mp (xLL seen' 0)) →
    ∃ G',L.loop xJR xV6 ⟨xHa (.ptr 0 0) (.ptr 1 0) s3 (.mp m) (.own false nb 0 D.next.length 1) (.int .i64 (D.next.length : Nat)) (.int .i64 ((s + 1 : Nat) : Int)),G3.set nb (.cells false false (ints (xAO (done ++ [j]) ++ List.replicate e 0)))⟩ =
     some (.exit 2,⟨xHa (.ptr 0 0) (.ptr 1 0) s3 (.mp m) (.own false nb 0 D.next.length 1) (.int .i64 (D.next.length : Nat)) (.int .i64 (D.next.length : Nat)),G'⟩) ∧
     G'[0]? = some (.cells false false D.cells) ∧ G'[1]? = G[1]? ∧ G.length ≤ G'.length ∧
     G'[m]? = some (.mp (xLL (xBX (xFU D cls) (s + 1) e seen').2 0)) ∧ G'[nb]? = some (.cells false false (ints (xAO (done ++ j :: (xBX (xFU D cls) (s + 1) e seen').1)))) := by
   intro j seen' G3 hse' hG3 hG3e
   have g3l : G3.length = G2.length := by rw [hG3e]; simp
   have g3o : ∀ b,b ≠ m → b ≠ nb → (G3.set nb (.cells false false (ints (xAO (done ++ [j]) ++ List.replicate e 0))))[b]? = G2[b]? := fun b h1 h2 => by
    rw [List.getElem?_set_ne (Ne.symm h2),hG3e,List.getElem?_set_ne (Ne.symm h1)]
   have hBn : Base D cls (G3.set nb (.cells false false (ints (xAO (done ++ [j]) ++ List.replicate e 0)))) B := by
    refine ⟨by rw [g3o 0 (by omega) (by omega)]; exact z0,⟨cb,by rw [g3o 1 (by omega) (by omega),z1]; exact cb1,by rw [g3o cb cm cn]; exact zc,cb3⟩,htw,by simp; omega⟩
   obtain ⟨G',f1,f2,f3,f4,f5,f6⟩ := ih (s + 1) _ (done ++ [j]) seen' (by omega) hBn (by simp [hd]) (fun cb' hcb2 => by
    rw [g3o 1 (by omega) (by omega),z1] at hcb2
    exact hcb' cb' hcb2) m1 n1 hse' (by rw [List.getElem?_set_ne (Ne.symm hmn)]; exact hG3) (List.getElem?_set_self (by omega))
   refine ⟨G',f1,f2,by rw [f3,g3o 1 (by omega) (by omega),z1],by simp at f4; omega,f5,?_⟩
   rw [f6,List.append_assoc]; rfl
  cases hidx : xLK (xFU D cls s) seen 0 with
  | some j =>
   rw [hidx] at hfind
   have hG2e : G2 = G2.set m (.mp (xLL seen 0)) := by
    obtain ⟨h1,h2⟩ := List.getElem?_eq_some_iff.1 zm
    rw [← h2,List.set_getElem_self]
   obtain ⟨G',f1,f2,f3,f4,f5,f6⟩ := cont j seen G2 hse zm hG2e
   refine ⟨G',?_,f2,f3,f4,by simpa [xBX,hidx] using f5,by simpa [xBX,hidx] using f6⟩
   clear hGn
   generalize xAO done ++ List.replicate (e + 1) (0 : Int) = cur at *
   rw [xV7]
   simp (maxSteps := 30000000) (disch := first | assumption | omega | (simp only [WL,AV.isCell,xAa] <;> omega) | rfl | decide) only [xNF,WB,hlt,↓reduceIte,hcell0,hfl,xDN,hfb,xA0,xAx,WM,fc2,fc1,AV.cells,AV.isCell,n1',y1,xR8,q1,r1,r2,htk,xMu,zm,hfind,zn,W2,hsetj,xNG,f1]
  | none =>
   rw [hidx] at hfind
   have hupd := xUx (v := .int .i64 (seen.length : Nat)) hbyt seen 0 hse hidx
   have hsn := xQz (xFU D cls s) seen 0
   rw [Nat.zero_add] at hsn
   rw [← hsn] at hupd
   unfold yBq at hupd
   have hel := xMD seen 0
   obtain ⟨G',f1,f2,f3,f4,f5,f6⟩ := cont seen.length (seen ++ [xFU D cls s]) (G2.set m (.mp (xLL (seen ++ [xFU D cls s]) 0))) (fun k hk => by
    rcases List.mem_append.1 hk with q | q
    ·exact hse k q
    ·rw [List.mem_singleton.1 q]; exact hbyt) (List.getElem?_set_self (by omega)) rfl
   have zn3 : ∀ X : Blk,(G2.set m X)[nb]? = some (.cells false false (ints (xAO done ++ List.replicate (e + 1) 0))) := fun X => by rw [List.getElem?_set_ne hmn]; exact zn
   refine ⟨G',?_,f2,f3,f4,by simpa [xBX,hidx] using f5,by simpa [xBX,hidx] using f6⟩
   clear hGn
   generalize xAO done ++ List.replicate (e + 1) (0 : Int) = cur at *
   rw [xV7]
   simp (maxSteps := 30000000) (disch := first | assumption | omega | (simp only [WL,AV.isCell,xAa] <;> omega) | rfl | decide) only [xNF,WB,hlt,↓reduceIte,hcell0,hfl,xDN,hfb,xA0,xAx,WM,fc2,fc1,AV.cells,AV.isCell,n1',y1,xR8,q1,r1,r2,htk,xMu,zm,hfind,hel,hupd,zn3,W2,hsetj,xNG,f1]
noncomputable def xJh (D : Da) (cls : List Int) : List Nat × List (List Nat) := xBX (xFU D cls) 0 D.next.length []
structure ClsB (D : Da) (cls : List Int) (G : xAc) : Prop where
 b0 : G[0]? = some (.cells false false D.cells)
 b1 : ∃ cb,G[1]? = some (.cells false false [.own false cb 0 cls.length 1]) ∧ G[cb]? = some (.cells false false (ints cls))
theorem ClsB.base {D : Da} {cls : List Int} {G : xAc} (h : ClsB D cls G) (T : xAc) (hT : 2 ≤ G.length + T.length) : Base D cls (G ++ T) (G.length + T.length) := by
 obtain ⟨cb,c1,c2⟩ := h.b1
 have := (List.getElem?_eq_some_iff.1 c2).1
 exact ⟨xAw h.b0,⟨cb,xAw c1,xAw c2,by omega⟩,by omega,by simp⟩
theorem xQB {D : Da} {cls : List Int} {many : Int} {G : xAc} (hV : Va D) (hC : ClsOk D cls) (hB : ClsB D cls G) :
  ∃ G' : xAc,G'[0]? = some (.cells false false D.cells) ∧ G'[1]? = G[1]? ∧ G.length + 2 ≤ G'.length ∧ G'[G.length + 1]? = some (.cells false false (ints (xAO (xJh D cls).1))) ∧
   L.loop xHb xUJ ⟨xF5 (.ptr 0 0) (.ptr 1 0) (.int .i64 many),G⟩ =
    if (((xJh D cls).2.length : Nat) : Int) = many then some (.ret,⟨xF5 (.ptr 0 0) (.ptr 1 0) (.int .i64 many),G'.set 1 (.cells false false [.own false (G.length + 1) 0 D.next.length 1])⟩)
    else L.loop xHb xUJ ⟨xF5 (.ptr 0 0) (.ptr 1 0) (.int .i64 ((xJh D cls).2.length : Nat)),G'.set 1 (.cells false false [.own false (G.length + 1) 0 D.next.length 1])⟩ := by
 obtain ⟨cb,c1,c2⟩ := hB.b1
 have n64 := hV.n64
 have hcl := (List.getElem?_eq_some_iff.1 c2).1
 have h1l := (List.getElem?_eq_some_iff.1 c1).1
 have hB2 := hB.base [.mp [],.cells false false (ints (List.replicate D.next.length 0))] (by simp)
 obtain ⟨G',f1,f2,f3,f4,f5,f6⟩ := yBU (s3 := .int .i64 many) (m := G.length) (nb := G.length + 1) (B := G.length + 2) hV hC (by omega) (by omega) (by omega) D.next.length 0
  (G ++ [.mp [],.cells false false (ints (List.replicate D.next.length 0))]) [] [] (by omega) hB2 rfl (fun cb' h => by
   have e := (xAw c1).symm.trans h
   have : cb = cb' := by simpa using e
   omega) (by omega) (by omega) (fun k hk => by cases hk) (xJo _ _) (xLW _ _ 1)
 have hlen := hC.len
 refine ⟨G',f2,by rw [f3]; exact List.getElem?_append_left h1l,by simp at f4; omega,f6,?_⟩
 simp only [Int.natCast_zero] at f1
 have y1 : G'[1]? = some (.cells false false [.own false cb 0 D.next.length 1]) := by rw [f3,List.getElem?_append_left h1l,c1,hlen]
 rw [hlen] at c1
 have c1' := fun T => xAw (X := T) c1
 have hel := xMD (xJh D cls).2 0
 have f5' : G'[G.length]? = some (.mp (xLL (xJh D cls).2 0)) := f5
 clear f5 f6
 generalize (xJh D cls).2 = ks at *
 have hG1 : 1 < G'.length := by simp at f4; omega
 rw [yFD]
 by_cases c : ((ks.length : Nat) : Int) = many
 ·rw [if_pos c]
  simp (maxSteps := 30000000) (disch := first | assumption | omega | (simp only [WL,AV.isCell,xAa] <;> omega) | rfl | decide) only [xR9,WB,WM,c1',xBp,xNG,f1,↓reduceIte,f5',hel,c,AV.cells,y1,xSa]
 ·rw [if_neg c]
  simp (maxSteps := 30000000) (disch := first | assumption | omega | (simp only [WL,AV.isCell,xAa] <;> omega) | rfl | decide) only [xR9,WB,WM,c1',xBp,xNG,f1,↓reduceIte,f5',hel,c,AV.cells,y1,xSa]
theorem xJi {k : List Nat} : ∀ {ks : List (List Nat)} {i j : Nat},xLK k ks i = some j → i ≤ j ∧ ks[j - i]? = some k
 | [],i,j,h => by cases h
 | k' :: ks,i,j,h => by
  unfold xLK at h
  split at h
  ·rename_i c
   cases h
   exact ⟨Nat.le_refl _,by rw [Nat.sub_self,c]; rfl⟩
  ·obtain ⟨h1,h2⟩ := xJi h
   refine ⟨by omega,?_⟩
   rw [show j - i = (j - (i + 1)) + 1 by omega]
   exact h2
theorem xQC {k : List Nat} : ∀ {ks : List (List Nat)} {i : Nat},xLK k ks i = none → k ∉ ks
 | [],i,_ => by simp
 | k' :: ks,i,h => by
  unfold xLK at h
  split at h
  ·cases h
  ·rename_i c
   have := xQC h
   simp only [List.mem_cons,not_or]
   exact ⟨c,this⟩
def xRB (key : Nat → List Nat) (e : Nat) (r : List Nat × List (List Nat)) : List Nat × List (List Nat) := match xLK (key e) r.2 0 with
 | some j => (r.1 ++ [j],r.2)
 | none => (r.1 ++ [r.2.length],r.2 ++ [key e])
theorem xDR (key : Nat → List Nat) : ∀ e s seen,xBX key s (e + 1) seen = xRB key (s + e) (xBX key s e seen)
 | 0,s,seen => by
  unfold xRB
  show xBX key s 1 seen = match xLK (key s) seen 0 with | some j => ([] ++ [j],seen) | none => ([] ++ [seen.length],seen ++ [key s])
  unfold xBX
  cases xLK (key s) seen 0 <;> rfl
 | e + 1,s,seen => by
  have h : ∀ e,xBX key s (e + 1) seen = match xLK (key s) seen 0 with
   | some j => (j :: (xBX key (s + 1) e seen).1,(xBX key (s + 1) e seen).2)
   | none => (seen.length :: (xBX key (s + 1) e (seen ++ [key s])).1,(xBX key (s + 1) e (seen ++ [key s])).2) := fun e => rfl
  rw [h (e + 1),h e]
  have e1 : s + (e + 1) = s + 1 + e := by omega
  rw [e1]
  cases xLK (key s) seen 0 with
  | some j =>
   simp only []
   rw [xDR key e (s + 1) seen]
   unfold xRB
   cases xLK (key (s + 1 + e)) (xBX key (s + 1) e seen).2 0 <;> rfl
  | none =>
   simp only []
   rw [xDR key e (s + 1) (seen ++ [key s])]
   unfold xRB
   cases xLK (key (s + 1 + e)) (xBX key (s + 1) e (seen ++ [key s])).2 0 <;> rfl
structure NumOk (key : Nat → List Nat) (e : Nat) (r : List Nat × List (List Nat)) : Prop where
 len : r.1.length = e
 nd : ∀ (i j : Nat) (k : List Nat),r.2[i]? = some k → r.2[j]? = some k → i = j
 at1 : ∀ i,i < e → r.2[r.1.getD i 0]? = some (key i)
 hit : ∀ j,j < r.2.length → ∃ i,i < e ∧ r.1.getD i 0 = j
 le : r.2.length ≤ e
theorem xDS {l : List Nat} {a : Nat} {i : Nat} (h : i < l.length) : (l ++ [a]).getD i 0 = l.getD i 0 := by
 simp only [List.getD_eq_getElem?_getD]; rw [List.getElem?_append_left h]
theorem xDT {l : List Nat} {a : Nat} : (l ++ [a]).getD l.length 0 = a := by
 simp [List.getD]
theorem xED (key : Nat → List Nat) : ∀ e,NumOk key e (xBX key 0 e [])
 | 0 => ⟨rfl,fun i j k h => by simp [xBX] at h,fun i h => by omega,fun j h => by simp [xBX] at h,by simp [xBX]⟩
 | e + 1 => by
  have ih := xED key e
  rw [xDR,Nat.zero_add]
  generalize xBX key 0 e [] = r at *
  obtain ⟨l,ks⟩ := r
  obtain ⟨h1,h2,h3,h4,h5⟩ := ih
  simp only at h1 h2 h3 h4 h5
  unfold xRB
  cases hi : xLK (key e) ks 0 with
  | some j =>
   obtain ⟨_,q⟩ := xJi hi
   rw [Nat.sub_zero] at q
   refine ⟨by simp [h1],h2,fun i hi' => ?_,fun j' hj => ?_,by show ks.length ≤ e + 1; omega⟩
   ·by_cases c : i < e
    ·show ks[(l ++ [j]).getD i 0]? = _
     rw [xDS (by omega)]; exact h3 i c
    ·have : i = l.length := by omega
     subst this
     show ks[(l ++ [j]).getD l.length 0]? = _
     rw [xDT,h1]; exact q
   ·obtain ⟨i,i1,i2⟩ := h4 j' hj
    exact ⟨i,by omega,by show (l ++ [j]).getD i 0 = j'; rw [xDS (by omega)]; exact i2⟩
  | none =>
   have q := xQC hi
   refine ⟨by simp [h1],fun i j k hi' hj' => ?_,fun i hi' => ?_,fun j' hj => ?_,by simp; omega⟩
   ·show i = j
    have key' : ∀ i,(ks ++ [key e])[i]? = some k → (i < ks.length ∧ ks[i]? = some k) ∨ (i = ks.length ∧ k = key e) := fun i h => by
     by_cases c : i < ks.length
     ·rw [List.getElem?_append_left c] at h; exact .inl ⟨c,h⟩
     ·have hl := (List.getElem?_eq_some_iff.1 h).1
      simp at hl
      have e1 : i = ks.length := by omega
      subst e1
      simp at h
      exact .inr ⟨rfl,h.symm⟩
    rcases key' i hi' with ⟨a1,a2⟩ | ⟨a1,a2⟩ <;> rcases key' j hj' with ⟨b1,b2⟩ | ⟨b1,b2⟩
    ·exact h2 i j k a2 b2
    ·subst b2; exact absurd (List.mem_of_getElem? a2) q
    ·subst a2; exact absurd (List.mem_of_getElem? b2) q
    ·omega
   ·by_cases c : i < e
    ·show (ks ++ [key e])[(l ++ [ks.length]).getD i 0]? = _
     rw [xDS (by omega)]
     have := h3 i c
     rw [List.getElem?_append_left (List.getElem?_eq_some_iff.1 this).1]; exact this
    ·have : i = l.length := by omega
     subst this
     show (ks ++ [key e])[(l ++ [ks.length]).getD l.length 0]? = _
     rw [xDT,h1]; simp
   ·simp only [List.length_append,List.length_singleton] at hj
    by_cases c : j' < ks.length
    ·obtain ⟨i,i1,i2⟩ := h4 j' c
     exact ⟨i,by omega,by show (l ++ [ks.length]).getD i 0 = j'; rw [xDS (by omega)]; exact i2⟩
    ·exact ⟨l.length,by omega,by show (l ++ [ks.length]).getD l.length 0 = j'; rw [xDT]; omega⟩
theorem NumOk.lt {key : Nat → List Nat} {e : Nat} {r : List Nat × List (List Nat)} (h : NumOk key e r) {i : Nat} (hi : i < e) : r.1.getD i 0 < r.2.length :=
 (List.getElem?_eq_some_iff.1 (h.at1 i hi)).1
theorem NumOk.same {key : Nat → List Nat} {e : Nat} {r : List Nat × List (List Nat)} (h : NumOk key e r) {i j : Nat} (hi : i < e) (hj : j < e) : r.1.getD i 0 = r.1.getD j 0 ↔ key i = key j := by
 have a := h.at1 i hi
 have b := h.at1 j hj
 constructor
 ·intro q
  rw [q,b] at a
  exact (Option.some.inj a).symm
 ·intro q
  rw [q] at a
  exact h.nd _ _ _ a b
theorem xQD : ∀ (b a : Nat) (f : Nat → Nat),(∀ i,i < a → f i < b) → (∀ i j,i < a → j < a → f i = f j → i = j) → a ≤ b
 | 0,a,f,h,_ => by
  rcases Nat.eq_zero_or_pos a with q | q
  ·omega
  ·have := h 0 q; omega
 | b + 1,a,f,h,hi => by
  by_cases c : ∃ i0,i0 < a ∧ f i0 = b
  ·obtain ⟨i0,h0,h1⟩ := c
   have := xQD b (a - 1) (fun i => if i = i0 then f (a - 1) else f i) (fun i hlt => by
    show (if i = i0 then f (a - 1) else f i) < b
    split
    ·rename_i e
     have h2 := h (a - 1) (by omega)
     have : f (a - 1) ≠ b := fun q => by have := hi (a - 1) i0 (by omega) h0 (q.trans h1.symm); omega
     omega
    ·rename_i e
     have h2 := h i (by omega)
     have : f i ≠ b := fun q => e (hi i i0 (by omega) h0 (q.trans h1.symm))
     omega) (fun i j h2 h3 => by
    show (if i = i0 then f (a - 1) else f i) = (if j = i0 then f (a - 1) else f j) → i = j
    split <;> split
    ·intros; omega
    ·intro q; have := hi (a - 1) j (by omega) (by omega) q; omega
    ·intro q; have := hi i (a - 1) (by omega) (by omega) q; omega
    ·intro q; exact hi i j (by omega) (by omega) q)
   omega
  ·have := xQD b a f (fun i hlt => by
    have h2 := h i hlt
    have : f i ≠ b := fun q => c ⟨i,hlt,q⟩
    omega) hi
   omega
theorem yBV {a : Nat} {f : Nat → Nat} (h : ∀ i,i < a → f i < a) (hi : ∀ i j,i < a → j < a → f i = f j → i = j) : ∀ j,j < a → ∃ i,i < a ∧ f i = j := by
 intro j hj
 refine Classical.byContradiction fun hn => ?_
 have hne : ∀ i,i < a → f i ≠ j := fun i hlt q => hn ⟨i,hlt,q⟩
 have := xQD (a - 1) a (fun i => if j < f i then f i - 1 else f i) (fun i hlt => by
  have h1 := h i hlt
  have h2 := hne i hlt
  show (if j < f i then f i - 1 else f i) < a - 1
  split <;> omega) (fun i k h1 h2 => by
  have q1 := hne i h1
  have q2 := hne k h2
  show (if j < f i then f i - 1 else f i) = (if j < f k then f k - 1 else f k) → i = k
  intro q
  refine hi i k h1 h2 ?_
  split at q <;> split at q <;> omega)
 omega
theorem yG5 {k0 k1 : Nat → List Nat} {n : Nat} {r0 r1 : List Nat × List (List Nat)} (h0 : NumOk k0 n r0) (h1 : NumOk k1 n r1) (hf : ∀ s t,s < n → t < n → k1 s = k1 t → r0.1.getD s 0 = r0.1.getD t 0) :
  r0.2.length ≤ r1.2.length ∧ (r0.2.length = r1.2.length → ∀ s t,s < n → t < n → r0.1.getD s 0 = r0.1.getD t 0 → r1.1.getD s 0 = r1.1.getD t 0) := by
 have hc : ∀ j,∃ s,j < r0.2.length → s < n ∧ r0.1.getD s 0 = j := fun j => by
  by_cases q : j < r0.2.length
  ·obtain ⟨s,s1,s2⟩ := h0.hit j q
   exact ⟨s,fun _ => ⟨s1,s2⟩⟩
  ·exact ⟨0,fun h => absurd h q⟩
 obtain ⟨w,hw⟩ := Classical.axiomOfChoice hc
 have f1 : ∀ i,i < r0.2.length → r1.1.getD (w i) 0 < r1.2.length := fun i hi => h1.lt (hw i hi).1
 have f2 : ∀ i j,i < r0.2.length → j < r0.2.length → r1.1.getD (w i) 0 = r1.1.getD (w j) 0 → i = j := fun i j hi hj q => by
  obtain ⟨a1,a2⟩ := hw i hi
  obtain ⟨b1,b2⟩ := hw j hj
  rw [← a2,← b2]
  exact hf _ _ a1 b1 ((h1.same a1 b1).1 q)
 refine ⟨xQD _ _ _ f1 f2,fun heq s t hs ht hst => ?_⟩
 have onto := yBV (a := r0.2.length) (f := fun i => r1.1.getD (w i) 0) (fun i hi => by have := f1 i hi; omega) f2
 have rep : ∀ s,s < n → r1.1.getD s 0 = r1.1.getD (w (r0.1.getD s 0)) 0 := fun s hs => by
  obtain ⟨j,j1,j2⟩ := onto (r1.1.getD s 0) (by have := h1.lt hs; omega)
  obtain ⟨w1,w2⟩ := hw j j1
  have := hf _ _ w1 hs ((h1.same w1 hs).1 j2)
  rw [w2] at this
  rw [← this]; exact j2.symm
 rw [rep s hs,rep t ht,hst]
def nt (D : Da) (s q x : Nat) : Nat := (nx D s q x).toNat
theorem xGz {D : Da} (hV : Va D) {s q x : Nat} (hs : s < D.next.length) (hq : q < D.next.length) (hx : x < two D.vars) : nt D s q x < D.next.length := by
 have := xFT hV (a := s) (b := q) (x := x) (by omega) (by omega) hx
 unfold nt; omega
theorem xMF {f g : Nat → List Nat} (hl : ∀ i,(f i).length = (g i).length) : ∀ e i,(List.range' i e).flatMap f = (List.range' i e).flatMap g → ∀ j,i ≤ j → j < i + e → f j = g j
 | 0,i,_,j,h1,h2 => by omega
 | e + 1,i,h,j,h1,h2 => by
  rw [List.range'_succ,List.flatMap_cons,List.flatMap_cons] at h
  obtain ⟨a,b⟩ := List.append_inj h (hl i)
  rcases Nat.eq_or_lt_of_le h1 with q | q
  ·rw [← q]; exact a
  ·exact xMF hl e (i + 1) b j q (by omega)
theorem xJj {f g : Nat → List Nat} : ∀ e i,(∀ j,i ≤ j → j < i + e → f j = g j) → (List.range' i e).flatMap f = (List.range' i e).flatMap g
 | 0,i,_ => rfl
 | e + 1,i,h => by
  rw [List.range'_succ,List.flatMap_cons,List.flatMap_cons,h i (by omega) (by omega),xJj e (i + 1) (fun j h1 h2 => h j (by omega) (by omega))]
theorem xD7 {D : Da} {cls : List Int} (hC : ClsOk D cls) {a b : Int} : xCI cls a = xCI cls b ↔ cls.getD a.toNat 0 = cls.getD b.toNat 0 := by
 have nn : ∀ i : Nat,0 ≤ cls.getD i 0 := fun i => by
  by_cases h : i < cls.length
  ·exact (hC.bd _ (xAl (a := (0 : Int)) h)).1
  ·rw [List.getD_eq_getElem?_getD,List.getElem?_eq_none (by omega)]; decide
 constructor
 ·intro h
  have h1 : (cls.getD a.toNat 0).toNat = (cls.getD b.toNat 0).toNat := by
   have := congrArg (fun l : List Nat => l.getD 1 0) h
   simpa [xCI] using this
  have h2 := nn a.toNat
  have h3 := nn b.toNat
  omega
 ·intro h; unfold xCI; rw [h]
theorem xJk {D : Da} {cls : List Int} (hC : ClsOk D cls) {s t : Nat} : xFU D cls s = xFU D cls t ↔ D.fin.getD s false = D.fin.getD t false ∧ cls.getD s 0 = cls.getD t 0 ∧
  ∀ q,q < D.next.length → ∀ x,x < two D.vars → cls.getD (nt D s q x) 0 = cls.getD (nt D t q x) 0 ∧ cls.getD (nt D q s x) 0 = cls.getD (nt D q t x) 0 := by
 constructor
 ·intro h
  have hl := congrArg List.length h
  rw [xRA,xRA] at hl
  have hf : D.fin.getD s false = D.fin.getD t false := by
   revert hl
   cases D.fin.getD s false <;> cases D.fin.getD t false <;> simp [fbB] <;> omega
  unfold xFU at h
  obtain ⟨h1,h2⟩ := List.append_inj h (by rw [List.length_append,List.length_append,hf]; rfl)
  obtain ⟨h3,h4⟩ := List.append_inj h1 (by rw [hf])
  have h5 := (xD7 hC).1 h4
  refine ⟨hf,by simpa using h5,fun q hq x hx => ?_⟩
  unfold ntA at h2
  have h6 := xMF (fun i => by rw [xIY,xIY]) _ _ h2 q (by omega) (by omega)
  unfold ntQ at h6
  have h7 := xMF (fun i => by rw [xMv,xMv]) _ _ h6 x (by omega) (by omega)
  unfold ntX at h7
  obtain ⟨h8,h9⟩ := List.append_inj h7 rfl
  exact ⟨(xD7 hC).1 h8,(xD7 hC).1 h9⟩
 ·rintro ⟨h1,h2,h3⟩
  unfold xFU
  have e1 : xCI cls (s : Int) = xCI cls (t : Int) := (xD7 hC).2 (by simpa using h2)
  rw [h1,e1]
  congr 1
  unfold ntA
  refine xJj _ _ fun q _ hq => ?_
  unfold ntQ
  refine xJj _ _ fun x _ hx => ?_
  unfold ntX
  obtain ⟨h4,h5⟩ := h3 q (by omega) x (by omega)
  rw [(xD7 hC).2 h4,(xD7 hC).2 h5]
structure Cong (D : Da) (E : Nat → Nat → Prop) : Prop where
 fin : ∀ s t,s < D.next.length → t < D.next.length → E s t → D.fin.getD s false = D.fin.getD t false
 l : ∀ s t q x,s < D.next.length → t < D.next.length → q < D.next.length → x < two D.vars → E s t → E (nt D s q x) (nt D t q x)
 r : ∀ s t q x,s < D.next.length → t < D.next.length → q < D.next.length → x < two D.vars → E s t → E (nt D q s x) (nt D q t x)
structure Stab (D : Da) (c : List Int) (m : Nat) : Prop where
 num : ∃ key,c = xAO (xBX key 0 D.next.length []).1 ∧ m = (xBX key 0 D.next.length []).2.length
 cong : Cong D (fun s t => c.getD s 0 = c.getD t 0)
 big : ∀ E,Cong D E → ∀ s t,s < D.next.length → t < D.next.length → E s t → c.getD s 0 = c.getD t 0
theorem xAG {l : List Nat} {i : Nat} : (xAO l).getD i 0 = ((l.getD i 0 : Nat) : Int) := by
 unfold xAO
 simp only [List.getD_eq_getElem?_getD,List.getElem?_map]
 cases l[i]? <;> rfl
structure Inv (D : Da) (cls : List Int) (m : Nat) : Prop where
 ok : ClsOk D cls
 big : ∀ E,Cong D E → ∀ s t,s < D.next.length → t < D.next.length → E s t → cls.getD s 0 = cls.getD t 0
 le : m ≤ D.next.length
 num : m = 0 ∨ ∃ key,cls = xAO (xBX key 0 D.next.length []).1 ∧ m = (xBX key 0 D.next.length []).2.length
theorem xUz {D : Da} {cls : List Int} {m : Nat} (hV : Va D) (h : Inv D cls m) :
  Inv D (xAO (xJh D cls).1) (xJh D cls).2.length ∧ m ≤ (xJh D cls).2.length ∧ ((xJh D cls).2.length = m → Stab D (xAO (xJh D cls).1) m) := by
 have n64 := hV.n64
 have n0 := hV.n0
 have ok : NumOk (xFU D cls) D.next.length (xJh D cls) := xED (xFU D cls) D.next.length
 have hbig : ∀ E,Cong D E → ∀ s t,s < D.next.length → t < D.next.length → E s t → (xAO (xJh D cls).1).getD s 0 = (xAO (xJh D cls).1).getD t 0 := fun E hE s t hs ht hst => by
  rw [xAG,xAG,(ok.same hs ht).2 ((xJk h.ok).2 ⟨hE.fin s t hs ht hst,h.big E hE s t hs ht hst,fun q hq x hx =>
   ⟨h.big E hE _ _ (xGz hV hs hq hx) (xGz hV ht hq hx) (hE.l s t q x hs ht hq hx hst),h.big E hE _ _ (xGz hV hq hs hx) (xGz hV hq ht hx) (hE.r s t q x hs ht hq hx hst)⟩⟩)]
 have hle := ok.le
 refine ⟨⟨⟨by unfold xAO; rw [List.length_map]; exact ok.len,fun c hc => ?_⟩,hbig,hle,.inr ⟨_,rfl,rfl⟩⟩,?_⟩
 ·obtain ⟨i,hi,rfl⟩ := List.getElem_of_mem hc
  have hi' : i < D.next.length := by unfold xAO at hi; rw [List.length_map,ok.len] at hi; exact hi
  have h1 := ok.lt hi'
  have h2 : (xAO (xJh D cls).1)[i] = (((xJh D cls).1.getD i 0 : Nat) : Int) := by
   rw [← xAG,List.getD_eq_getElem?_getD,List.getElem?_eq_getElem hi]; rfl
  rw [h2]; omega
 ·rcases h.num with q | ⟨key,q1,q2⟩
  ·have h1 := ok.lt n0
   exact ⟨by omega,fun e => by omega⟩
  ·have ok0 := xED key D.next.length
   have hf : ∀ s t,s < D.next.length → t < D.next.length → xFU D cls s = xFU D cls t → (xBX key 0 D.next.length []).1.getD s 0 = (xBX key 0 D.next.length []).1.getD t 0 := fun s t hs ht e => by
    have := ((xJk h.ok).1 e).2.1
    rw [q1,xAG,xAG] at this
    omega
   obtain ⟨f1,f2⟩ := yG5 ok0 ok hf
   refine ⟨by omega,fun e => ⟨⟨_,rfl,e.symm⟩,?_,hbig⟩⟩
   have f3 := f2 (by omega)
   have up : ∀ s t,s < D.next.length → t < D.next.length → cls.getD s 0 = cls.getD t 0 → (xAO (xJh D cls).1).getD s 0 = (xAO (xJh D cls).1).getD t 0 := fun s t hs ht e => by
    rw [q1,xAG,xAG] at e
    rw [xAG,xAG,f3 s t hs ht (by omega)]
   have dn : ∀ s t,s < D.next.length → t < D.next.length → (xAO (xJh D cls).1).getD s 0 = (xAO (xJh D cls).1).getD t 0 → xFU D cls s = xFU D cls t := fun s t hs ht e => by
    rw [xAG,xAG] at e
    exact (ok.same hs ht).1 (by omega)
   exact ⟨fun s t hs ht e => ((xJk h.ok).1 (dn s t hs ht e)).1,
    fun s t q x hs ht hq hx e => up _ _ (xGz hV hs hq hx) (xGz hV ht hq hx) (((xJk h.ok).1 (dn s t hs ht e)).2.2 q hq x hx).1,
    fun s t q x hs ht hq hx e => up _ _ (xGz hV hq hs hx) (xGz hV hq ht hx) (((xJk h.ok).1 (dn s t hs ht e)).2.2 q hq x hx).2⟩
theorem xUA {D : Da} (hV : Va D) : ∀ k cls (m : Nat) G,D.next.length - m ≤ k → Inv D cls m → ClsB D cls G →
  ∃ c m' b,∃ G' : xAc,L.loop xHb xUJ ⟨xF5 (.ptr 0 0) (.ptr 1 0) (.int .i64 (m : Nat)),G⟩ = some (.ret,⟨xF5 (.ptr 0 0) (.ptr 1 0) (.int .i64 (m' : Nat)),G'⟩) ∧ Stab D c m' ∧
   G'[1]? = some (.cells false false [.own false b 0 D.next.length 1]) ∧ G'[b]? = some (.cells false false (ints c)) ∧ 1 < b := by
 intro k
 induction k with
 | zero =>
  intro cls m G hk hI hB
  obtain ⟨i1,i2,i3⟩ := xUz hV hI
  have hle := i1.le
  have hle2 := hI.le
  have hlen := hB.base [.dead,.dead] (by simp)
  obtain ⟨G',r1,r2,r3,r4,r5⟩ := xQB (many := (m : Int)) hV hI.ok hB
  have hc : (((xJh D cls).2.length : Nat) : Int) = (m : Int) := by omega
  rw [if_pos hc] at r5
  have hG1 := (List.getElem?_eq_some_iff.1 hB.b1.choose_spec.1).1
  exact ⟨_,m,_,_,r5,i3 (by omega),List.getElem?_set_self (by omega),by rw [List.getElem?_set_ne (by omega)]; exact r4,by omega⟩
 | succ k ih =>
  intro cls m G hk hI hB
  obtain ⟨i1,i2,i3⟩ := xUz hV hI
  have hle := i1.le
  have hle2 := hI.le
  obtain ⟨G',r1,r2,r3,r4,r5⟩ := xQB (many := (m : Int)) hV hI.ok hB
  have hG1 := (List.getElem?_eq_some_iff.1 hB.b1.choose_spec.1).1
  have s1 : ∀ X : Blk,(G'.set 1 X)[1]? = some X := fun X => List.getElem?_set_self (by omega)
  have s2 : ∀ X : Blk,(G'.set 1 X)[G.length + 1]? = some (.cells false false (ints (xAO (xJh D cls).1))) := fun X => by rw [List.getElem?_set_ne (by omega)]; exact r4
  by_cases hc : (((xJh D cls).2.length : Nat) : Int) = (m : Int)
  ·rw [if_pos hc] at r5
   exact ⟨_,m,_,_,r5,i3 (by omega),s1 _,s2 _,by omega⟩
  ·rw [if_neg hc] at r5
   rw [r5]
   refine ih _ _ _ (by omega) i1 ⟨by rw [List.getElem?_set_ne (by omega)]; exact r1,G.length + 1,?_,s2 _⟩
   rw [i1.ok.len]; exact s1 _
theorem xUB {D : Da} : Inv D (List.replicate D.next.length 0) 0 := by
 have g : ∀ i,(List.replicate D.next.length (0 : Int)).getD i 0 = 0 := fun i => by
  by_cases h : i < D.next.length
  ·rw [List.getD_eq_getElem?_getD,List.getElem?_eq_getElem (by simpa using h)]; simp
  ·rw [List.getD_eq_getElem?_getD,List.getElem?_eq_none (by simp; omega)]; rfl
 exact ⟨⟨by simp,fun c hc => by rw [(List.mem_replicate.1 hc).2]; omega⟩,fun E hE s t hs ht hst => by rw [g,g],Nat.zero_le _,.inl rfl⟩
theorem xZz {D : Da} (hV : Va D) : ∃ c m,Stab D c m ∧ L.pcall 60 [D.av] = some (.tup [.sl false D.next.length (ints c),.int .i64 (m : Nat)]) := by
 have n64 := hV.n64
 have hB : ClsB D (List.replicate D.next.length 0) [.cells false false D.cells,.cells false false [.own false 2 0 D.next.length 1],.cells false false (ints (List.replicate D.next.length 0))] :=
  ⟨rfl,2,by rw [List.length_replicate]; rfl,rfl⟩
 obtain ⟨c,m,b,G',h1,h2,h3,h4,h5⟩ := xUA hV _ _ 0 _ (Nat.le_refl _) xUB hB
 refine ⟨c,m,h2,?_⟩
 have hcl : c.length = D.next.length := by
  obtain ⟨key,e,_⟩ := h2.num
  rw [e]; unfold xAO; rw [List.length_map]; exact (xED key _).len
 have htk : List.take D.next.length c = c := List.take_of_length_le (by omega)
 simp only [Int.natCast_zero] at h1
 unfold Da.cells at h1
 unfold Da.av Da.cells
 rw [yJz,a60,xAf]
 simp (maxSteps := 30000000) (disch := first | assumption | omega | (simp only [WL,AV.isCell,xAa] <;> omega) | rfl | decide) only [WB,Nat.reduceSub,AV.cells,AV.isCell,↓reduceIte,xBp,Nat.reduceAdd,xSa,h1,h3,xAY,h4,W2,htk]
def xLM (size : Nat) (bad : Bool) : Int := if bad = true then -1 else (size : Nat)
structure Exp {σ : Type} (v : Int) (B N : Nat) (f : AV) (size : σ → Nat) (bad : σ → Bool) (stp : σ → Nat → Nat → Nat → σ) (I : σ → Nat → xAc → Prop) : Prop where
 v0 : 0 ≤ v
 v3 : v ≤ 3
 n64 : N ≤ 64
 grow : ∀ s lb G X,I s lb G → I s lb (G ++ [X])
 lb : ∀ s lb G,I s lb G → lb < G.length ∧ B ≤ G.length
 le : ∀ s lb G,I s lb G → bad s = false → size s ≤ N
 mono : ∀ s l r x,size s ≤ size (stp s l r x)
 call : ∀ s lb G (l r x p : Nat),I s lb G → bad s = false → l < size s → r < size s → x < two v → B ≤ p → p ≠ lb → p < G.length →
  ∃ G' lb',L.icall f [.int .i64 (l : Nat),.int .i64 (r : Nat),.int .i64 (x : Nat)] G = some (.int .i64 (xLM (size (stp s l r x)) (bad (stp s l r x))),G') ∧ I (stp s l r x) lb' G' ∧ G'[p]? = G[p]? ∧ p ≠ lb'
section
variable {σ : Type} {v : Int} {B N : Nat} {f : AV} {size : σ → Nat} {bad : σ → Bool} {stp : σ → Nat → Nat → Nat → σ} {I : σ → Nat → xAc → Prop}
def goX (bad : σ → Bool) (stp : σ → Nat → Nat → Nat → σ) (l r : Nat) : Nat → Nat → σ → σ
 | _,0,s => s
 | x,e + 1,s => if bad (stp s l r x) = true then stp s l r x else goX bad stp l r (x + 1) e (stp s l r x)
theorem xFv (h : ∀ s l r x,size s ≤ size (stp s l r x)) (l r : Nat) : ∀ e x s,size s ≤ size (goX bad stp l r x e s)
 | 0,_,s => Nat.le_refl _
 | e + 1,x,s => by
  unfold goX
  split
  ·exact h s l r x
  ·exact Nat.le_trans (h s l r x) (xFv h l r e (x + 1) _)
set_option maxHeartbeats 1000000 in
theorem yJg (hE : Exp v B N f size bad stp I) {l r p : Nat} {s5 s6 s26 s27 : AV} (hp : B ≤ p) : ∀ e x s lb G,x + e = two v → I s lb G → bad s = false → l < size s → r < size s → G[p]? = some (.cells false false [.int .i64 (l : Nat),.int .i64 (r : Nat)]) → p ≠ lb →
  ∃ G' lb' xx,L.loop xOd yAu ⟨xOe (.int .i64 v) f (.int .i64 (size s : Nat)) s5 s6 (.ptr p 0) s26 s27 (.int .i64 (two v : Nat)) (.int .i64 (x : Nat)),G⟩ =
   some (.exit (if bad (goX bad stp l r x e s) = true then 0 else 6),⟨xOe (.int .i64 v) f (.int .i64 (xLM (size (goX bad stp l r x e s)) (bad (goX bad stp l r x e s)))) s5 s6 (.ptr p 0) s26 s27 (.int .i64 (two v : Nat)) xx,G'⟩) ∧
   I (goX bad stp l r x e s) lb' G' := by
 intro e
 induction e with
 | zero =>
  intro x s lb G h hI hb hl hr hG hpl
  obtain rfl : x = two v := by omega
  refine ⟨G,lb,.int .i64 (two v : Nat),?_,hI⟩
  have hx8 := (xAV hE.v3).1
  simp only [goX,hb,xLM]
  rw [xWm]
  simp (maxSteps := 30000000) (disch := first | assumption | omega | (simp only [WL,AV.isCell,xAa] <;> omega) | rfl | decide) only [xOc,WB,↓reduceIte,xHg]
 | succ e ih =>
  intro x s lb G h hI hb hl hr hG hpl
  have hx8 := (xAV hE.v3).1
  have hlt : (x : Int) < (two v : Nat) := by omega
  have hpg := (List.getElem?_eq_some_iff.1 hG).1
  obtain ⟨G1,lb1,c1,c2,c3,c4⟩ := hE.call s lb G l r x p hI hb hl hr (by omega) hp hpl hpg
  have hm := hE.mono s l r x
  unfold goX
  generalize stp s l r x = s' at *
  cases hb' : bad s' with
  | true =>
   rw [hb'] at c1
   refine ⟨G1,lb1,.int .i64 (x : Nat),?_,by simpa using c2⟩
   simp only [xLM,if_true] at c1 ⊢
   rw [xWm]
   simp (maxSteps := 30000000) (disch := first | assumption | omega | (simp only [WL,AV.isCell,xAa] <;> omega) | rfl | decide) only [xOc,WB,hlt,↓reduceIte,WA,hG,c1,Int.reduceNeg,Int.reduceLT,Nat.reduceEqDiff,xHg,hb']
  | false =>
   rw [hb'] at c1
   obtain ⟨G',lb',xx,f1,f2⟩ := ih (x + 1) s' lb1 G1 (by omega) c2 hb' (by omega) (by omega) (c3.trans hG) c4
   refine ⟨G',lb',xx,?_,by simpa using f2⟩
   have hnn : ¬ ((size s' : Nat) : Int) < 0 := by omega
   simp only [xLM,Bool.false_eq_true,if_false] at c1 f1 ⊢
   rw [xWm]
   simp (maxSteps := 30000000) (disch := first | assumption | omega | (simp only [WL,AV.isCell,xAa] <;> omega) | rfl | decide) only [xOc,WB,hlt,↓reduceIte,WA,hG,c1,hnn,xHg,f1,Int.reduceNeg]
end
section
variable {σ : Type} {v : Int} {B N : Nat} {f : AV} {size : σ → Nat} {bad : σ → Bool} {stp : σ → Nat → Nat → Nat → σ} {I : σ → Nat → xAc → Prop}
def goP (bad : σ → Bool) (stp : σ → Nat → Nat → Nat → σ) (n j k : Nat) (s : σ) : σ :=
 if bad (goX bad stp j k 0 n s) = true then goX bad stp j k 0 n s else goX bad stp k j 0 n (goX bad stp j k 0 n s)
def goJ (bad : σ → Bool) (stp : σ → Nat → Nat → Nat → σ) (n k : Nat) : Nat → Nat → σ → σ
 | _,0,s => s
 | j,e + 1,s => if bad (goP bad stp n j k s) = true then goP bad stp n j k s else goJ bad stp n k (j + 1) e (goP bad stp n j k s)
def goK (size : σ → Nat) (bad : σ → Bool) (stp : σ → Nat → Nat → Nat → σ) (n : Nat) : Nat → Nat → σ → σ
 | _,0,s => s
 | k,e + 1,s => if k < size s then (if bad (goJ bad stp n k 0 (k + 1) s) = true then goJ bad stp n k 0 (k + 1) s else goK size bad stp n (k + 1) e (goJ bad stp n k 0 (k + 1) s)) else s
theorem yBW (h : ∀ s l r x,size s ≤ size (stp s l r x)) (n j k : Nat) (s : σ) : size s ≤ size (goP bad stp n j k s) := by
 unfold goP
 split
 ·exact xFv h j k n 0 s
 ·exact Nat.le_trans (xFv h j k n 0 s) (xFv h k j n 0 _)
set_option maxHeartbeats 1000000 in
theorem yIF (hE : Exp v B N f size bad stp I) {j k : Nat} {s5 s6 : AV} {s : σ} {lb : Nat} {G : xAc} (hI : I s lb G) (hb : bad s = false) (hj : j < size s) (hk : k < size s) :
  ∃ G' lb' yy,L.loop xHi xUK ⟨xEM (.int .i64 v) f (.int .i64 (size s : Nat)) s5 s6 (.agg [.int .i64 (j : Nat),.int .i64 (k : Nat),.int .i64 (k : Nat),.int .i64 (j : Nat)]) (.int .i64 1),G⟩ =
   some (.exit (if bad (goX bad stp k j 0 (two v) s) = true then 0 else 4),⟨xEM (.int .i64 v) f (.int .i64 (xLM (size (goX bad stp k j 0 (two v) s)) (bad (goX bad stp k j 0 (two v) s)))) s5 s6 (.agg [.int .i64 (j : Nat),.int .i64 (k : Nat),.int .i64 (k : Nat),.int .i64 (j : Nat)]) yy,G'⟩) ∧
   I (goX bad stp k j 0 (two v) s) lb' G' := by
 have hlb := hE.lb s lb G hI
 have hsh := xBU hE.v0 hE.v3
 have hv : ¬ v < 0 := by have := hE.v0; omega
 obtain ⟨G',lb',xx,f1,f2⟩ := yJg hE (l := k) (r := j) (p := G.length) (s5 := s5) (s6 := s6) (s26 := .agg [.int .i64 (j : Nat),.int .i64 (k : Nat),.int .i64 (k : Nat),.int .i64 (j : Nat)]) (s27 := .int .i64 1) hlb.2 (two v) 0 s lb
  (G ++ [.cells false false [.int .i64 (k : Nat),.int .i64 (j : Nat)]]) (by omega) (hE.grow _ _ _ _ hI) hb hk hj (xJo _ _) (by omega)
 generalize goX bad stp k j 0 (two v) s = s' at *
 have e2 : L.loop xHi xUK ⟨xEM (.int .i64 v) f (.int .i64 (size s' : Nat)) s5 s6 (.agg [.int .i64 (j : Nat),.int .i64 (k : Nat),.int .i64 (k : Nat),.int .i64 (j : Nat)]) (.int .i64 2),G'⟩ = some (.exit 4,⟨xEM (.int .i64 v) f (.int .i64 (size s' : Nat)) s5 s6 (.agg [.int .i64 (j : Nat),.int .i64 (k : Nat),.int .i64 (k : Nat),.int .i64 (j : Nat)]) (.int .i64 2),G'⟩) := by
  rw [xOf]
  simp (maxSteps := 30000000) (disch := first | assumption | omega | (simp only [WL,AV.isCell,xAa] <;> omega) | rfl | decide) only [xHh,WB,↓reduceIte,xHj]
 simp only [Int.natCast_zero] at f1
 cases hb' : bad s' with
 | true =>
  rw [hb'] at f1
  refine ⟨G',lb',.int .i64 1,?_,f2⟩
  simp only [xLM,if_true] at f1 ⊢
  rw [xOf]
  simp (maxSteps := 30000000) (disch := first | assumption | omega | (simp only [WL,AV.isCell,xAa] <;> omega) | rfl | decide) only [xHh,WB,Int.reduceLT,↓reduceIte,WA,Nat.reduceMul,AV.cells,AV.isCell,Nat.reduceAdd,hsh,xHg,f1,Int.reduceNeg,Nat.reduceEqDiff,xHj]
 | false =>
  rw [hb'] at f1
  refine ⟨G',lb',.int .i64 2,?_,f2⟩
  simp only [xLM,Bool.false_eq_true,if_false] at f1 ⊢
  rw [xOf]
  simp (maxSteps := 30000000) (disch := first | assumption | omega | (simp only [WL,AV.isCell,xAa] <;> omega) | rfl | decide) only [xHh,WB,Int.reduceLT,↓reduceIte,WA,Nat.reduceMul,AV.cells,AV.isCell,Nat.reduceAdd,hsh,xHg,f1,Int.reduceAdd,xHj,e2]
set_option maxHeartbeats 1000000 in
theorem yJ8 (hE : Exp v B N f size bad stp I) {j k : Nat} {s5 s6 : AV} {s : σ} {lb : Nat} {G : xAc} (hI : I s lb G) (hb : bad s = false) (hj : j < size s) (hk : k < size s) :
  ∃ G' lb' yy,L.loop xHi xUK ⟨xEM (.int .i64 v) f (.int .i64 (size s : Nat)) s5 s6 (.agg [.int .i64 (j : Nat),.int .i64 (k : Nat),.int .i64 (k : Nat),.int .i64 (j : Nat)]) (.int .i64 0),G⟩ =
   some (.exit (if bad (goP bad stp (two v) j k s) = true then 0 else 4),⟨xEM (.int .i64 v) f (.int .i64 (xLM (size (goP bad stp (two v) j k s)) (bad (goP bad stp (two v) j k s)))) s5 s6 (.agg [.int .i64 (j : Nat),.int .i64 (k : Nat),.int .i64 (k : Nat),.int .i64 (j : Nat)]) yy,G'⟩) ∧
   I (goP bad stp (two v) j k s) lb' G' := by
 have hlb := hE.lb s lb G hI
 have hsh := xBU hE.v0 hE.v3
 have hv : ¬ v < 0 := by have := hE.v0; omega
 obtain ⟨G',lb',xx,f1,f2⟩ := yJg hE (l := j) (r := k) (p := G.length) (s5 := s5) (s6 := s6) (s26 := .agg [.int .i64 (j : Nat),.int .i64 (k : Nat),.int .i64 (k : Nat),.int .i64 (j : Nat)]) (s27 := .int .i64 0) hlb.2 (two v) 0 s lb
  (G ++ [.cells false false [.int .i64 (j : Nat),.int .i64 (k : Nat)]]) (by omega) (hE.grow _ _ _ _ hI) hb hj hk (xJo _ _) (by omega)
 have hm := xFv (bad := bad) hE.mono j k (two v) 0 s
 unfold goP
 generalize goX bad stp j k 0 (two v) s = s' at *
 simp only [Int.natCast_zero] at f1
 cases hb' : bad s' with
 | true =>
  rw [hb'] at f1
  refine ⟨G',lb',.int .i64 0,?_,by simpa using f2⟩
  simp only [xLM,if_true,hb'] at f1 ⊢
  rw [xOf]
  simp (maxSteps := 30000000) (disch := first | assumption | omega | (simp only [WL,AV.isCell,xAa] <;> omega) | rfl | decide) only [xHh,WB,Int.reduceLT,↓reduceIte,WA,Nat.reduceMul,AV.cells,AV.isCell,Nat.reduceAdd,hsh,xHg,f1,Int.reduceNeg,Nat.reduceEqDiff,xHj]
 | false =>
  rw [hb'] at f1
  obtain ⟨G2,lb2,yy,g1,g2⟩ := yIF (s5 := s5) (s6 := s6) hE f2 hb' (show j < size s' by omega) (show k < size s' by omega)
  refine ⟨G2,lb2,yy,?_,by simpa using g2⟩
  simp only [Bool.false_eq_true,if_false] at f1 g1 ⊢
  generalize hrr : xLM (size s') false = rr at f1
  have hrr' : rr = ((size s' : Nat) : Int) := by rw [← hrr]; rfl
  subst hrr'
  generalize goX bad stp k j 0 (two v) s' = s2 at *
  generalize xLM (size s2) (bad s2) = w at *
  rw [xOf]
  simp (maxSteps := 30000000) (disch := first | assumption | omega | (simp only [WL,AV.isCell,xAa] <;> omega) | rfl | decide) only [xHh,WB,Int.reduceLT,↓reduceIte,WA,Nat.reduceMul,AV.cells,AV.isCell,Nat.reduceAdd,hsh,xHg,f1,xHj,g1]
end
section
variable {σ : Type} {v : Int} {B N : Nat} {f : AV} {size : σ → Nat} {bad : σ → Bool} {stp : σ → Nat → Nat → Nat → σ} {I : σ → Nat → xAc → Prop}
set_option maxHeartbeats 1000000 in
theorem yJ9 (hE : Exp v B N f size bad stp I) {k : Nat} : ∀ e j s lb G,j + e = k + 1 → I s lb G → bad s = false → k < size s →
  ∃ G' lb' yy,L.loop xOh yAv ⟨xOi (.int .i64 v) f (.int .i64 (size s : Nat)) (.int .i64 (k : Nat)) (.int .i64 (j : Nat)),G⟩ =
   some (.exit (if bad (goJ bad stp (two v) k j e s) = true then 0 else 2),⟨xOi (.int .i64 v) f (.int .i64 (xLM (size (goJ bad stp (two v) k j e s)) (bad (goJ bad stp (two v) k j e s)))) (.int .i64 (k : Nat)) yy,G'⟩) ∧
   I (goJ bad stp (two v) k j e s) lb' G' := by
 intro e
 induction e with
 | zero =>
  intro j s lb G h hI hb hk
  obtain rfl : j = k + 1 := by omega
  have hle := hE.le s lb G hI hb
  have n64 := hE.n64
  refine ⟨G,lb,.int .i64 ((k + 1 : Nat) : Int),?_,hI⟩
  have c : ¬ (((k + 1 : Nat) : Int) ≤ (k : Nat)) := by omega
  simp only [goJ,hb,xLM]
  rw [xWn]
  simp (maxSteps := 30000000) (disch := first | assumption | omega | (simp only [WL,AV.isCell,xAa] <;> omega) | rfl | decide) only [xOg,WB,c,↓reduceIte,xOj]
 | succ e ih =>
  intro j s lb G h hI hb hk
  have hle := hE.le s lb G hI hb
  have n64 := hE.n64
  have hlt : ((j : Nat) : Int) ≤ (k : Nat) := by omega
  obtain ⟨G1,lb1,yy,f1,f2⟩ := yJ8 (s5 := .int .i64 (k : Nat)) (s6 := .int .i64 (j : Nat)) hE hI hb (show j < size s by omega) hk
  have hm := yBW (bad := bad) hE.mono (two v) j k s
  unfold goJ
  generalize goP bad stp (two v) j k s = s' at *
  cases hb' : bad s' with
  | true =>
   rw [hb'] at f1
   refine ⟨G1,lb1,.int .i64 (j : Nat),?_,by simpa using f2⟩
   simp only [xLM,if_true,hb'] at f1 ⊢
   rw [xWn]
   simp (maxSteps := 30000000) (disch := first | assumption | omega | (simp only [WL,AV.isCell,xAa] <;> omega) | rfl | decide) only [xOg,WB,hlt,↓reduceIte,AV.cells,Nat.reduceAdd,Nat.reduceLeDiff,AV.isCell,xHj,f1,Int.reduceNeg,Nat.reduceEqDiff,xOj]
  | false =>
   rw [hb'] at f1
   obtain ⟨G2,lb2,zz,g1,g2⟩ := ih (j + 1) s' lb1 G1 (by omega) f2 hb' (by omega)
   refine ⟨G2,lb2,zz,?_,by simpa using g2⟩
   simp only [Bool.false_eq_true,if_false] at f1 g1 ⊢
   generalize hrr : xLM (size s') false = rr at f1
   have hrr' : rr = ((size s' : Nat) : Int) := by rw [← hrr]; rfl
   subst hrr'
   generalize goJ bad stp (two v) k (j + 1) e s' = s2 at *
   generalize xLM (size s2) (bad s2) = w at *
   rw [xWn]
   simp (maxSteps := 30000000) (disch := first | assumption | omega | (simp only [WL,AV.isCell,xAa] <;> omega) | rfl | decide) only [xOg,WB,hlt,↓reduceIte,AV.cells,Nat.reduceAdd,Nat.reduceLeDiff,AV.isCell,xHj,f1,xOj,g1]
set_option maxHeartbeats 1000000 in
theorem yKa (hE : Exp v B N f size bad stp I) : ∀ e k s lb G,k + e = N → I s lb G → bad s = false →
  ∃ G' lb' zz yy,L.loop xOk yAw ⟨xOl (.int .i64 v) f (.int .i64 (size s : Nat)) (.int .i64 (k : Nat)),G⟩ =
   some (.exit 0,⟨xOl (.int .i64 v) f zz yy,G'⟩) ∧
   I (goK size bad stp (two v) k e s) lb' G' := by
 intro e
 induction e with
 | zero =>
  intro k s lb G h hI hb
  have hle := hE.le s lb G hI hb
  have n64 := hE.n64
  have c : ¬ ((k : Nat) : Int) < (size s : Nat) := by omega
  refine ⟨G,lb,.int .i64 (size s : Nat),.int .i64 (k : Nat),?_,hI⟩
  rw [xSp]
  simp (maxSteps := 30000000) (disch := first | assumption | omega | (simp only [WL,AV.isCell,xAa] <;> omega) | rfl | decide) only [xJ2,WB,c,↓reduceIte,xOm]
 | succ e ih =>
  intro k s lb G h hI hb
  have hle := hE.le s lb G hI hb
  have n64 := hE.n64
  unfold goK
  by_cases c : k < size s
  ·rw [if_pos c]
   have hlt : ((k : Nat) : Int) < (size s : Nat) := by omega
   obtain ⟨G1,lb1,yy,f1,f2⟩ := yJ9 hE (k + 1) 0 s lb G (by omega) hI hb c
   generalize goJ bad stp (two v) k 0 (k + 1) s = s' at *
   simp only [Int.natCast_zero] at f1
   cases hb' : bad s' with
   | true =>
    rw [hb'] at f1
    refine ⟨G1,lb1,.int .i64 (-1),.int .i64 (k : Nat),?_,by simpa using f2⟩
    simp only [xLM,if_true,hb'] at f1 ⊢
    rw [xSp]
    simp (maxSteps := 30000000) (disch := first | assumption | omega | (simp only [WL,AV.isCell,xAa] <;> omega) | rfl | decide) only [xJ2,WB,hlt,↓reduceIte,xOj,f1,Int.reduceNeg,Nat.reduceEqDiff,xOm]
   | false =>
    rw [hb'] at f1
    obtain ⟨G2,lb2,zz,ww,g1,g2⟩ := ih (k + 1) s' lb1 G1 (by omega) f2 hb'
    refine ⟨G2,lb2,zz,ww,?_,by simpa using g2⟩
    simp only [Bool.false_eq_true,if_false,xLM] at f1 g1 ⊢
    rw [xSp]
    simp (maxSteps := 30000000) (disch := first | assumption | omega | (simp only [WL,AV.isCell,xAa] <;> omega) | rfl | decide) only [xJ2,WB,hlt,↓reduceIte,xOj,f1,xOm,g1]
  ·rw [if_neg c]
   have c' : ¬ ((k : Nat) : Int) < (size s : Nat) := by omega
   refine ⟨G,lb,.int .i64 (size s : Nat),.int .i64 (k : Nat),?_,hI⟩
   rw [xSp]
   simp (maxSteps := 30000000) (disch := first | assumption | omega | (simp only [WL,AV.isCell,xAa] <;> omega) | rfl | decide) only [xJ2,WB,c',↓reduceIte,xOm]
theorem xQE (hE : Exp v B N f size bad stp I) {s : σ} {lb : Nat} {G : xAc} (hI : I s lb G) (hb : bad s = false) (h1 : size s = 1) :
  ∃ G' lb',L.icall (.func 75 []) [.int .i64 v,f] G = some (.tup [],G') ∧ I (goK size bad stp (two v) 0 N s) lb' G' := by
 obtain ⟨G',lb',zz,yy,f1,f2⟩ := yKa hE N 0 s lb G (by omega) hI hb
 refine ⟨G',lb',?_,f2⟩
 have h1' : ((size s : Nat) : Int) = 1 := by omega
 rw [h1'] at f1
 simp only [Int.natCast_zero] at f1
 rw [yJJ,a75,xGB]
 simp (maxSteps := 30000000) (disch := first | assumption | omega | (simp only [WL,AV.isCell,xAa] <;> omega) | rfl | decide) only [WB,Nat.reduceAdd,Nat.reduceSub,xOm,f1,↓reduceIte]
end
def xD8 (k : Int) : List Int → Nat → Option Nat
 | [],_ => none
 | k' :: ks,i => if k = k' then some i else xD8 k ks (i + 1)
def xUC : List Int → Nat → List (AV × AV)
 | [],_ => []
 | k :: ks,i => (.int .i64 k,.int .i64 (i : Nat)) :: xUC ks (i + 1)
theorem xMG : ∀ (ks : List Int) (i : Nat),(xUC ks i).length = ks.length
 | [],_ => rfl
 | k :: ks,i => by rw [xUC,List.length_cons,List.length_cons,xMG ks]
theorem xQF (k : Int) : ∀ (ks : List Int) (i : Nat),xUC (ks ++ [k]) i = xUC ks i ++ [(.int .i64 k,.int .i64 ((i + ks.length : Nat) : Int))]
 | [],i => rfl
 | k' :: ks,i => by
  rw [List.cons_append,xUC,xUC,xQF k ks (i + 1),List.length_cons,List.cons_append]
  congr 4
  rw [show i + 1 + ks.length = i + (ks.length + 1) by omega]
theorem xQG (a b : Int) : xDJ (.int .i64 a) (.int .i64 b) = some (decide (a = b)) := by
 simp only [xDJ,xP8]
 by_cases h : a = b <;> simp [h]
theorem xJl {k : Int} : ∀ (ks : List Int) (i : Nat),xFO (.int .i64 k) (xUC ks i) = some ((xD8 k ks i).map fun (j : Nat) => AV.int .i64 (j : Nat))
 | [],i => rfl
 | k' :: ks,i => by
  simp only [xUC,xFO,xQG,xD8]
  by_cases c : k = k'
  ·simp [c]
  ·simp only [c,decide_false]
   rw [xJl ks (i + 1)]
   simp
theorem xUD {k : Int} {v : AV} : ∀ (ks : List Int) (i : Nat),xD8 k ks i = none → xTU (.int .i64 k) v (xUC ks i) = some (xUC ks i ++ [(.int .i64 k,v)])
 | [],i,_ => rfl
 | k' :: ks,i,hn => by
  unfold xD8 at hn
  split at hn
  ·cases hn
  rename_i c
  simp only [xUC,xTU,xQG,c,decide_false]
  rw [xUD ks (i + 1) hn]
  rfl
theorem xJm {k : Int} : ∀ {ks : List Int} {i j : Nat},xD8 k ks i = some j → i ≤ j ∧ ks[j - i]? = some k
 | [],i,j,h => by cases h
 | k' :: ks,i,j,h => by
  unfold xD8 at h
  split at h
  ·rename_i c
   cases h
   exact ⟨Nat.le_refl _,by rw [Nat.sub_self,c]; rfl⟩
  ·obtain ⟨h1,h2⟩ := xJm h
   refine ⟨by omega,?_⟩
   rw [show j - i = (j - (i + 1)) + 1 by omega]
   exact h2
theorem idxI_none {k : Int} : ∀ {ks : List Int} {i : Nat},xD8 k ks i = none ↔ k ∉ ks
 | [],i => by simp [xD8]
 | k' :: ks,i => by
  unfold xD8
  split
  ·rename_i c; simp [c]
  ·rename_i c
   rw [idxI_none (ks := ks)]
   simp [c]
def xBW (D : Da) (o : List Int) (l r x : Nat) : List Int :=
 if nx D (o.getD l 0) (o.getD r 0) x ∈ o then o else o ++ [nx D (o.getD l 0) (o.getD r 0) x]
structure OrdOk (D : Da) (o : List Int) : Prop where
 nd : o.Nodup
 bd : ∀ s ∈ o,0 ≤ s ∧ s < D.next.length
theorem yBX : ∀ {o : List Int} {n : Nat},o.Nodup → (∀ s ∈ o,0 ≤ s ∧ s < (n : Int)) → o.length ≤ n := by
 intro o n hn hb
 refine xQD n o.length (fun i => (o.getD i 0).toNat) (fun i hi => ?_) (fun i j hi hj e => ?_)
 ·have := hb _ (xAl (a := (0 : Int)) hi); omega
 ·have h1 := hb _ (xAl (a := (0 : Int)) hi)
  have h2 := hb _ (xAl (a := (0 : Int)) hj)
  have h3 : o.getD i 0 = o.getD j 0 := by
   have e' : (o.getD i 0).toNat = (o.getD j 0).toNat := e
   omega
  rw [List.getD_eq_getElem?_getD,List.getD_eq_getElem?_getD,List.getElem?_eq_getElem hi,List.getElem?_eq_getElem hj] at h3
  have hp := List.pairwise_iff_getElem.1 hn
  have h4 : o[i] = o[j] := Option.some.inj (by simpa using h3)
  rcases Nat.lt_trichotomy i j with q | q | q
  ·exact absurd h4 (hp i j hi hj q)
  ·exact q
  ·exact absurd h4.symm (hp j i hj hi q)
theorem OrdOk.le {D : Da} {o : List Int} (h : OrdOk D o) : o.length ≤ D.next.length := yBX h.nd h.bd
theorem OrdOk.step {D : Da} {o : List Int} (hV : Va D) (h : OrdOk D o) {l r x : Nat} (hl : l < o.length) (hr : r < o.length) (hx : x < two D.vars) : OrdOk D (xBW D o l r x) := by
 unfold xBW
 split
 ·exact h
 ·rename_i c
  refine ⟨?_,fun s hs => ?_⟩
  ·rw [List.nodup_append]
   refine ⟨h.nd,by simp,fun a ha b hb => ?_⟩
   rw [List.mem_singleton] at hb
   subst hb
   intro e
   subst e
   exact c ha
  ·rcases List.mem_append.1 hs with q | q
   ·exact h.bd s q
   ·rw [List.mem_singleton] at q
    subst q
    exact xFT hV (h.bd _ (xAl hl)) (h.bd _ (xAl hr)) hx
structure RenI (D : Da) (o : List Int) (lb : Nat) (G : xAc) : Prop where
 ok : OrdOk D o
 b0 : G[0]? = some (.cells false false D.cells)
 b1 : G[1]? = some (.cells false false [.int .i64 0,.int .i64 0,.sl true 0 [],.sl true 0 []])
 b2 : G[2]? = some (.mp (xUC o 0))
 b3 : G[3]? = some (.cells false false [.mp 2])
 b5 : G[5]? = some (.cells false false [.own false lb 0 o.length 1])
 bl : G[lb]? = some (.cells false false (ints o))
 lo : lb = 4 ∨ 6 ≤ lb
set_option maxRecDepth 10000 in
set_option maxHeartbeats 4000000 in
theorem yFj {D : Da} {o : List Int} {lb : Nat} {G : xAc} {l r x p : Nat} (hV : Va D) (hI : RenI D o lb G) (hl : l < o.length) (hr : r < o.length) (hx : x < two D.vars) (hp : 6 ≤ p) (hpl : p ≠ lb) (hpg : p < G.length) :
  ∃ G' lb',L.icall (.func 102 [.ptr 0 0,.ptr 5 0,.ptr 3 0]) [.int .i64 (l : Nat),.int .i64 (r : Nat),.int .i64 (x : Nat)] G = some (.int .i64 ((xBW D o l r x).length : Nat),G') ∧
   RenI D (xBW D o l r x) lb' G' ∧ G'[p]? = G[p]? ∧ p ≠ lb' := by
 have hstep := hI.ok.step hV hl hr hx
 have hle := hI.ok.le
 have hle2 := hstep.le
 have n64 := hV.n64
 have h8 := (xAV hV.v3).1
 obtain ⟨ok,b0,b1,b2,b3,b5,bl,lo⟩ := hI
 have hbl := (List.getElem?_eq_some_iff.1 bl).1
 have hb5 := (List.getElem?_eq_some_iff.1 b5).1
 have sl := ok.bd _ (xAl (a := (0 : Int)) hl)
 have sr := ok.bd _ (xAl (a := (0 : Int)) hr)
 have g1 : List.take 1 (List.drop l (ints o)) = [.int .i64 (o.getD l 0)] := xAr _ _ hl
 have g2 : List.take 1 (List.drop r (ints o)) = [.int .i64 (o.getD r 0)] := xAr _ _ hr
 have hord : xBW D o l r x = if nx D (o.getD l 0) (o.getD r 0) x ∈ o then o else o ++ [nx D (o.getD l 0) (o.getD r 0) x] := rfl
 generalize hA : o.getD l 0 = A at *
 generalize hB : o.getD r 0 = C at *
 have m1 := xAl (a := ([] : List (List Int))) (show A.toNat < D.next.length by omega)
 have m2 := hV.rl _ m1
 have m3 := xAl (a := ([] : List Int)) (show C.toNat < (D.next.getD A.toNat []).length by omega)
 have m4 := hV.cl _ m1 _ m3
 have gx : List.take 1 (List.drop x (ints ((D.next.getD A.toNat []).getD C.toNat []))) = [.int .i64 (((D.next.getD A.toNat []).getD C.toNat []).getD x 0)] := xAr _ _ (by omega)
 have hnx : nx D A C x = ((D.next.getD A.toNat []).getD C.toNat []).getD x 0 := rfl
 rw [hnx] at hord
 have hf := xJl (k := ((D.next.getD A.toNat []).getD C.toNat []).getD x 0) o 0
 have hel := xMG o 0
 generalize hS : ((D.next.getD A.toNat []).getD C.toNat []).getD x 0 = S at *
 generalize xBW D o l r x = o2 at *
 unfold Da.cells at b0
 cases hidx : xD8 S o 0 with
 | some j =>
  rw [hidx] at hf
  have hmem : S ∈ o := Classical.byContradiction fun h => by rw [idxI_none.2 h] at hidx; cases hidx
  rw [if_pos hmem] at hord
  subst hord
  refine ⟨G,lb,?_,⟨ok,by unfold Da.cells; exact b0,b1,b2,b3,b5,bl,lo⟩,rfl,hpl⟩
  rw [yFO,yG8]
  simp (maxSteps := 30000000) (disch := first | assumption | omega | (simp only [WL,AV.isCell,xAa] <;> omega) | rfl | decide) only [WB,Nat.reduceAdd,Nat.reduceSub,b0,b5,bl,W2,hA,xA2,rowsD,m2,hB,xBy,rowT,m4,xAj,hS,b3,WM,↓reduceIte,b2,hf]
 | none =>
  rw [hidx] at hf
  have hmem : S ∉ o := idxI_none.1 hidx
  rw [if_neg hmem] at hord
  subst hord
  have hupd := xUD (v := .int .i64 ((o.length : Nat) : Int)) o 0 hidx
  have hsn := xQF S o 0
  rw [Nat.zero_add] at hsn
  rw [← hsn] at hupd
  have xB8 : ∀ X : Blk,(G.set 2 X)[0]? = G[0]? ∧ (G.set 2 X)[3]? = G[3]? ∧ (G.set 2 X)[5]? = G[5]? ∧ (G.set 2 X)[lb]? = G[lb]? := fun X => ⟨List.getElem?_set_ne (by omega),List.getElem?_set_ne (by omega),List.getElem?_set_ne (by omega),List.getElem?_set_ne (by omega)⟩
  have z5 := fun X : Blk => (xB8 X).2.2.1.trans b5
  have zl := fun X : Blk => (xB8 X).2.2.2.trans bl
  have htk : List.take o.length o = o := List.take_length
  have z5b : ∀ (X : Blk) (T : xAc),((G.set 2 X).set lb .dead ++ T)[5]? = some (.cells false false [.own false lb 0 o.length 1]) := fun X T => xAw (by rw [List.getElem?_set_ne (by omega)]; exact z5 X)
  have z5c : ∀ (X Y : Blk) (T : xAc),(((G.set 2 X).set lb .dead ++ T).set 5 Y)[5]? = some Y := fun X Y T => List.getElem?_set_self (by simp; omega)
  have hints : ints o ++ [AV.int .i64 S] = ints (o ++ [S]) := by simp [ints]
  obtain ⟨G',hG'⟩ : ∃ G' : xAc,G' = (((G.set 2 (.mp (xUC (o ++ [S]) 0))).set lb .dead) ++ [Blk.cells false false (ints (o ++ [S]))]).set 5 (.cells false false [.own false G.length 0 (o.length + 1) 1]) := ⟨_,rfl⟩
  have old : ∀ b,b ≠ 2 → b ≠ lb → b ≠ 5 → b < G.length → G'[b]? = G[b]? := fun b h2 h3 h4 h5 => by
   rw [hG',List.getElem?_set_ne (Ne.symm h4),List.getElem?_append_left (by simpa using h5),List.getElem?_set_ne (Ne.symm h3),List.getElem?_set_ne (Ne.symm h2)]
  refine ⟨G',G.length,?_,⟨hstep,by unfold Da.cells; exact (old 0 (by omega) (by omega) (by omega) (by omega)).trans b0,(old 1 (by omega) (by omega) (by omega) (by omega)).trans b1,?_,(old 3 (by omega) (by omega) (by omega) (by omega)).trans b3,?_,?_,.inr (by omega)⟩,old p (by omega) hpl (by omega) hpg,by omega⟩
  ·rw [hG',yFO,yG8]
   simp (maxSteps := 30000000) (disch := first | assumption | omega | (simp only [WL,AV.isCell,xAa] <;> omega) | rfl | decide) only [WB,Nat.reduceAdd,Nat.reduceSub,b0,b5,bl,W2,hA,xA2,rowsD,m2,hB,xBy,rowT,m4,xAj,hS,b3,WM,↓reduceIte,b2,hf,hupd,z5,AV.cells,AV.isCell,zl,Nat.reduceBEq,htk,hints,z5b,z5c]
  ·rw [hG',List.getElem?_set_ne (by omega),List.getElem?_append_left (by simp; omega),List.getElem?_set_ne (by omega),List.getElem?_set_self (by omega)]
  ·rw [hG',List.getElem?_set_self (by simp; omega)]; simp
  ·rw [hG',List.getElem?_set_ne (by omega),List.getElem?_append_right (by simp)]; simp
theorem xZA {D : Da} (hV : Va D) : Exp D.vars 6 D.next.length (.func 102 [.ptr 0 0,.ptr 5 0,.ptr 3 0]) List.length (fun _ => false) (xBW D) (RenI D) where
 v0 := hV.v0
 v3 := hV.v3
 n64 := hV.n64
 grow := fun s lb G X h => ⟨h.ok,xAw h.b0,xAw h.b1,xAw h.b2,xAw h.b3,xAw h.b5,xAw h.bl,h.lo⟩
 lb := fun s lb G h => ⟨(List.getElem?_eq_some_iff.1 h.bl).1,(List.getElem?_eq_some_iff.1 h.b5).1⟩
 le := fun s lb G h _ => h.ok.le
 mono := fun s l r x => by
  unfold xBW
  split
  ·exact Nat.le_refl _
  ·simp
 call := fun s lb G l r x p hI _ hl hr hx hp hpl hpg => by
  obtain ⟨G',lb',h1,h2,h3,h4⟩ := yFj hV hI hl hr hx hp hpl hpg
  exact ⟨G',lb',by simpa [xLM] using h1,h2,h3,h4⟩
def xCj (D : Da) : List Int := goK List.length (fun _ => false) (xBW D) (two D.vars) 0 D.next.length [D.empty]
def xZQ (o : List Int) (s : Int) : Nat := (xD8 s o 0).getD 0
set_option maxRecDepth 10000 in
set_option maxHeartbeats 2000000 in
theorem xZB {D : Da} {o : List Int} {lb : Nat} {G : xAc} {l r x : Nat} (hV : Va D) (hI : RenI D o lb G) (hl : l < o.length) (hr : r < o.length) (hx : x < two D.vars) (hm : nx D (o.getD l 0) (o.getD r 0) x ∈ o) :
  L.icall (.func 103 [.ptr 3 0,.ptr 0 0,.ptr 5 0]) [.int .i64 (l : Nat),.int .i64 (r : Nat),.int .i64 (x : Nat)] G = some (.int .i64 (xZQ o (nx D (o.getD l 0) (o.getD r 0) x) : Nat),G) := by
 have hle := hI.ok.le
 have n64 := hV.n64
 have h8 := (xAV hV.v3).1
 obtain ⟨ok,b0,b1,b2,b3,b5,bl,lo⟩ := hI
 have sl := ok.bd _ (xAl (a := (0 : Int)) hl)
 have sr := ok.bd _ (xAl (a := (0 : Int)) hr)
 have g1 : List.take 1 (List.drop l (ints o)) = [.int .i64 (o.getD l 0)] := xAr _ _ hl
 have g2 : List.take 1 (List.drop r (ints o)) = [.int .i64 (o.getD r 0)] := xAr _ _ hr
 generalize hA : o.getD l 0 = A at *
 generalize hB : o.getD r 0 = C at *
 have m1 := xAl (a := ([] : List (List Int))) (show A.toNat < D.next.length by omega)
 have m2 := hV.rl _ m1
 have m3 := xAl (a := ([] : List Int)) (show C.toNat < (D.next.getD A.toNat []).length by omega)
 have m4 := hV.cl _ m1 _ m3
 have gx : List.take 1 (List.drop x (ints ((D.next.getD A.toNat []).getD C.toNat []))) = [.int .i64 (((D.next.getD A.toNat []).getD C.toNat []).getD x 0)] := xAr _ _ (by omega)
 have hnx : nx D A C x = ((D.next.getD A.toNat []).getD C.toNat []).getD x 0 := rfl
 rw [hnx] at hm ⊢
 have hf := xJl (k := ((D.next.getD A.toNat []).getD C.toNat []).getD x 0) o 0
 have hel := xMG o 0
 generalize hS : ((D.next.getD A.toNat []).getD C.toNat []).getD x 0 = S at *
 unfold Da.cells at b0
 unfold xZQ
 cases hidx : xD8 S o 0 with
 | none => exact absurd hm (idxI_none.1 hidx)
 | some j =>
  rw [hidx] at hf
  rw [yHO,yHB]
  simp (maxSteps := 30000000) (disch := first | assumption | omega | (simp only [WL,AV.isCell,xAa] <;> omega) | rfl | decide) only [WB,Nat.reduceAdd,Nat.reduceSub,b3,b0,b5,bl,W2,hA,xA2,rowsD,m2,hB,xBy,rowT,m4,xAj,hS,WM,↓reduceIte,b2,hf,Option.getD_some]
theorem xZC {D : Da} {o : List Int} {lb : Nat} {G : xAc} {l : Nat} (hV : Va D) (hI : RenI D o lb G) (hl : l < o.length) :
  L.icall (.func 104 [.ptr 0 0,.ptr 5 0]) [.int .i64 (l : Nat)] G = some (.bool (D.fin.getD (o.getD l 0).toNat false),G) := by
 have hle := hI.ok.le
 have n64 := hV.n64
 have fl := hV.fl
 obtain ⟨ok,b0,b1,b2,b3,b5,bl,lo⟩ := hI
 have sl := ok.bd _ (xAl (a := (0 : Int)) hl)
 have g1 : List.take 1 (List.drop l (ints o)) = [.int .i64 (o.getD l 0)] := xAr _ _ hl
 generalize hA : o.getD l 0 = A at *
 have gf : List.take 1 (List.drop A.toNat (bools D.fin)) = [.bool (D.fin.getD A.toNat false)] := xAr _ _ (by omega)
 unfold Da.cells at b0
 rw [yHP,yHC]
 simp (maxSteps := 30000000) (disch := first | assumption | omega | (simp only [WL,AV.isCell,xAa] <;> omega) | rfl | decide) only [WB,Nat.reduceAdd,Nat.reduceSub,b0,fl,b5,xAj,bl,W2,hA,gf]
structure Rd (v : Int) (n B : Nat) (f g : AV) (nxt : Nat → Nat → Nat → Int) (fin : Nat → Bool) (J : xAc → Prop) : Prop where
 v0 : 0 ≤ v
 v3 : v ≤ 3
 n0 : 0 < n
 n64 : n ≤ 64
 keep : ∀ G G',J G → (∀ b,b < B → G'[b]? = G[b]?) → J G'
 nx : ∀ G (l r x : Nat),J G → l < n → r < n → x < two v → L.icall f [.int .i64 (l : Nat),.int .i64 (r : Nat),.int .i64 (x : Nat)] G = some (.int .i64 (nxt l r x),G)
 fn : ∀ G (l : Nat),J G → l < n → ∃ T : xAc,L.icall g [.int .i64 (l : Nat)] G = some (.bool (fin l),G ++ T)
def rvL (nxt : Nat → Nat → Nat → Int) (l r x : Nat) : List Int := (List.range x).map (nxt l r)
theorem xCN (nxt : Nat → Nat → Nat → Int) (l r x : Nat) : (rvL nxt l r x).length = x := by simp [rvL]
theorem xUE (nxt : Nat → Nat → Nat → Int) (l r x : Nat) : rvL nxt l r (x + 1) = rvL nxt l r x ++ [nxt l r x] := by
 unfold rvL; rw [List.range_succ,List.map_append]; rfl
section
variable {v : Int} {n B rb l r : Nat} {f g : AV} {nxt : Nat → Nat → Nat → Int} {fin : Nat → Bool} {J : xAc → Prop} {s8 s9 s16 s17 s23 s24 : AV}
set_option maxHeartbeats 1000000 in
theorem yIG (hR : Rd v n B f g nxt fin J) (hl : l < n) (hr : r < n) (hrb : B ≤ rb) : ∀ e x G cs id,x + e = two v → 1 ≤ x → J G → G[rb]? = some (.cells false false cs) → cs.length = n → cs[r]? = some (.own false id 0 x 1) → G[id]? = some (.cells false false (ints (rvL nxt l r x))) → id ≠ rb → B ≤ id →
  ∃ G' : xAc,∃ id',L.loop xJS xV8 ⟨xHc (.int .i64 v) (.int .i64 (n : Nat)) f g s8 s9 (.int .i64 (l : Nat)) (.own false rb 0 n 1) (.int .i64 (r : Nat)) s16 s17 s23 s24 (.int .i64 (two v : Nat)) (.int .i64 (x : Nat)),G⟩ =
   some (.exit 4,⟨xHc (.int .i64 v) (.int .i64 (n : Nat)) f g s8 s9 (.int .i64 (l : Nat)) (.own false rb 0 n 1) (.int .i64 (r : Nat)) s16 s17 s23 s24 (.int .i64 (two v : Nat)) (.int .i64 (two v : Nat)),G'⟩) ∧
   G'[rb]? = some (.cells false false (cs.set r (.own false id' 0 (two v) 1))) ∧ G'[id']? = some (.cells false false (ints (rvL nxt l r (two v)))) ∧ id' ≠ rb ∧ B ≤ id' ∧ (id' = id ∨ G.length ≤ id') ∧
   (∀ b,b < G.length → b ≠ rb → b ≠ id → G'[b]? = G[b]?) ∧ G.length ≤ G'.length := by
 intro e
 induction e with
 | zero =>
  intro x G cs id h hx1 hJ hG hcl hc hid hne hB
  obtain rfl : x = two v := by omega
  have h8 := (xAV hR.v3).1
  refine ⟨G,id,?_,?_,hid,hne,hB,.inl rfl,fun _ _ _ _ => rfl,Nat.le_refl _⟩
  ·rw [xV9]
   simp (maxSteps := 30000000) (disch := first | assumption | omega | (simp only [WL,AV.isCell,xAa] <;> omega) | rfl | decide) only [xNH,WB,↓reduceIte,xSb]
  ·obtain ⟨h1,h2⟩ := List.getElem?_eq_some_iff.1 hc
   rw [← h2,List.set_getElem_self]; exact hG
 | succ e ih =>
  intro x G cs id h hx1 hJ hG hcl hc hid hne hB
  have h8 := (xAV hR.v3).1
  have n64 := hR.n64
  have hlt : (x : Int) < (two v : Nat) := by omega
  have hrl := (List.getElem?_eq_some_iff.1 hG).1
  have hil := (List.getElem?_eq_some_iff.1 hid).1
  have hnx := hR.nx G l r x hJ hl hr (by omega)
  have hrv := xUE nxt l r x
  have hrl2 := xCN nxt l r x
  generalize nxt l r x = y at *
  obtain ⟨G1,hG1⟩ : ∃ G1 : xAc,G1 = (G.set id .dead ++ [Blk.cells false false (ints (rvL nxt l r x ++ [y]))]).set rb (.cells false false (cs.set r (.own false G.length 0 (x + 1) 1))) := ⟨_,rfl⟩
  have old : ∀ b,b < G.length → b ≠ rb → b ≠ id → G1[b]? = G[b]? := fun b h1 h2 h3 => by
   rw [hG1,List.getElem?_set_ne (Ne.symm h2),List.getElem?_append_left (by simpa using h1),List.getElem?_set_ne (Ne.symm h3)]
  have hlen1 : G1.length = G.length + 1 := by rw [hG1]; simp
  obtain ⟨G',id',f1,f2,f3,f4,f5,f6,f7,f8⟩ := ih (x + 1) G1 (cs.set r (.own false G.length 0 (x + 1) 1)) G.length (by omega) (by omega) (hR.keep G G1 hJ fun b hb => old b (by omega) (by omega) (by omega))
   (by rw [hG1]; exact List.getElem?_set_self (by simp; omega)) (by simpa using hcl) (List.getElem?_set_self (by omega))
   (by rw [hG1,hrv,List.getElem?_set_ne (by omega),List.getElem?_append_right (by simp)]; simp) (by omega) (by omega)
  refine ⟨G',id',?_,?_,f3,f4,f5,.inr (by omega),fun b h1 h2 h3 => by rw [f7 b (by omega) h2 (by omega),old b h1 h2 h3],by omega⟩
  ·have gc : List.take 1 (List.drop r cs) = [.own false id 0 x 1] := by
    obtain ⟨h1,h2⟩ := List.getElem?_eq_some_iff.1 hc
    rw [List.drop_eq_getElem_cons h1,h2]; rfl
   have htk : List.take x (rvL nxt l r x) = rvL nxt l r x := List.take_of_length_le (by omega)
   have hints : ints (rvL nxt l r x) ++ [AV.int .i64 y] = ints (rvL nxt l r x ++ [y]) := by simp [ints]
   have zr : ∀ T : xAc,(G.set id .dead ++ T)[rb]? = some (.cells false false cs) := fun T => xAw (by rw [List.getElem?_set_ne hne]; exact hG)
   have hsame : xCW G G (.ptr rb r) 1 = true := by
    have h1 : rd G (.ptr rb r) 1 = some [.own false id 0 x 1] := by
     rw [xF9,hG,xBY (by omega),gc]
    simp [xCW,h1,xYe]
   have hwr : ∀ X : AV,List.take r cs ++ X :: List.drop (r + 1) cs = cs.set r X := fun X => by rw [List.set_eq_take_append_cons_drop,if_pos (by omega)]
   rw [hG1] at f1
   rw [xV9]
   simp (maxSteps := 30000000) (disch := first | assumption | omega | (simp only [WL,AV.isCell,xAa] <;> omega) | rfl | decide) only [xNH,WB,hlt,↓reduceIte,WH,WP,hG,gc,Nat.reduceSub,hnx,hsame,AV.cells,AV.isCell,hid,Nat.reduceBEq,W2,htk,hints,zr,hwr,xSb,f1]
  ·rw [f2,List.set_set]
end
end Go.Abs.Det
