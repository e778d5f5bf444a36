/- Reachable. -/
import Derived.Test.YtijmhicopfphnaaDoorAbsBun
import Derived.Test.YtijmhicopfphnaaDoorAMM
namespace Go.Abs.Tree
open Go Go.Abs
set_option linter.unusedSimpArgs false
set_option linter.unusedVariables false
def xJK (s : Nat) : List Rl → Nat
 | [] => s
 | u :: t => xJK (if (s.testBit u.l.toNat && s.testBit u.r.toNat) = true then s ||| 2 ^ u.t.toNat else s) t
theorem xUS : ∀ (l : List Rl) (s : Nat),s < 18446744073709551616 → xTF l → xJK s l < 18446744073709551616
 | [],s,h,_ => h
 | u :: t,s,h,hb => by
  have hu := hb u (List.mem_cons_self ..)
  refine xUS t _ ?_ (fun e he => hb e (List.mem_cons_of_mem _ he))
  split
  ·exact xNg h (xOm (by omega))
  ·exact h
theorem xOs : ∀ (l : List Rl) (s j : Nat),s.testBit j = true → (xJK s l).testBit j = true
 | [],s,j,h => h
 | u :: t,s,j,h => xOs t _ j (by split <;> simp [h])
theorem yHg {s a b : Nat} : (s >>> a &&& s >>> b) &&& 1 = if (s.testBit a && s.testBit b) = true then 1 else 0 := by
 have h : ((s >>> a &&& s >>> b) &&& 1) = (s >>> a &&& s >>> b) % 2 := Nat.and_one_is_mod _
 have ht : (s >>> a &&& s >>> b).testBit 0 = (s.testBit a && s.testBit b) := by
  rw [Nat.testBit_and,Nat.testBit_shiftRight,Nat.testBit_shiftRight,Nat.add_zero,Nat.add_zero]
 rw [h]
 rw [Nat.testBit_zero] at ht
 rw [← ht]
 by_cases c : (s >>> a &&& s >>> b) % 2 = 1
 ·rw [c]; simp
 ·have : (s >>> a &&& s >>> b) % 2 = 0 := by omega
  rw [this]; simp
theorem xOt {z : Bool} {rl : List Rl} (hl : rl.length < 1099511627776) (hb : xTF rl) : ∀ d i s G,i + d = rl.length → s < 18446744073709551616 →
  ∃ X,L.loop xR8 yAq ⟨xR9 (.int .u64 (s : Nat)) (.sl z rl.length (rls rl)) (.int .i64 (rl.length : Nat)) (.int .i64 (i : Nat)),G⟩ =
   some (.exit 0,⟨xR9 (.int .u64 (xJK s (rl.drop i) : Nat)) (.sl z rl.length (rls rl)) (.int .i64 (rl.length : Nat)) (.int .i64 (rl.length : Nat)),G ++ X⟩)
 | 0,i,s,G,h,hs => by
  obtain rfl : i = rl.length := by omega
  refine ⟨[],?_⟩
  rw [List.drop_length,xJK,xXC,List.append_nil]
  simp (maxSteps := 30000000) (disch := first | assumption | omega | (simp only [WL,AV.isCell,xAb,xAa] <;> omega) | rfl | decide) only [xR7,WB,↓reduceIte,xUA]
 | d + 1,i,s,G,h,hs => by
  have hlt : (i : Int) < (rl.length : Nat) := by omega
  obtain ⟨⟨l0,l1⟩,⟨r0',r1⟩,⟨t0,t1⟩,p1,n1⟩ := hb _ (xIN (by omega : i < rl.length))
  have hsl := yAH s (show (rl.getD i r0).l.toNat ≤ IntKind.u64.bits from by show _ ≤ 64; omega)
  have hsr := yAH s (show (rl.getD i r0).r.toNat ≤ IntKind.u64.bits from by show _ ≤ 64; omega)
  have sh : ∀ a,s >>> a < 18446744073709551616 := fun a => Nat.lt_of_le_of_lt (by rw [Nat.shiftRight_eq_div_pow]; exact Nat.div_le_self ..) hs
  have ha1 := xTG (sh (rl.getD i r0).l.toNat) (sh (rl.getD i r0).r.toNat)
  have ha2 := xTG (Nat.lt_of_le_of_lt Nat.and_le_left (sh (rl.getD i r0).l.toNat) : s >>> (rl.getD i r0).l.toNat &&& s >>> (rl.getD i r0).r.toNat < 18446744073709551616) (show 1 < 18446744073709551616 by omega)
  rw [yHg,show ((1 : Nat) : Int) = 1 from rfl] at ha2
  have hp := xOm (show (rl.getD i r0).t.toNat < 64 by omega)
  rw [xHR (by omega : i < rl.length),xJK]
  by_cases c : (s.testBit (rl.getD i r0).l.toNat && s.testBit (rl.getD i r0).r.toNat) = true
  ·rw [if_pos c] at ha2 ⊢
   have hs2 := xVS (show (rl.getD i r0).t.toNat < 64 by omega)
   have ho := yDA hs hp
   obtain ⟨X,ih⟩ := xOt (z := z) hl hb d (i + 1) (s ||| 2 ^ (rl.getD i r0).t.toNat) (G ++ [.cells false false (xGI (rl.getD i r0))]) (by omega) (xNg hs hp)
   refine ⟨.cells false false (xGI (rl.getD i r0)) :: X,?_⟩
   simp only [xGI,List.append_assoc,List.cons_append,List.nil_append] at ih ⊢
   simp only [Int.natCast_one] at ha2
   rw [xXC]
   simp (maxSteps := 30000000) (disch := first | assumption | omega | (simp only [WL,AV.isCell,xAb,xAa] <;> omega) | rfl | decide) only [xR7,WB,hlt,↓reduceIte,xCF,AV.cells,AV.isCell,Nat.reduceAdd,hsl,hsr,ha1,ha2,xAm,hs2,ho,xUA,ih]
  ·rw [if_neg c] at ha2 ⊢
   have hs2 : IntKind.u64.wrap (0 * 2 ^ min (rl.getD i r0).t.toNat IntKind.u64.bits) = 0 := by rw [Int.zero_mul]; rfl
   have ho := yDA hs (show 0 < 18446744073709551616 by omega)
   rw [Nat.or_zero,Int.natCast_zero] at ho
   obtain ⟨X,ih⟩ := xOt (z := z) hl hb d (i + 1) s (G ++ [.cells false false (xGI (rl.getD i r0))]) (by omega) hs
   refine ⟨.cells false false (xGI (rl.getD i r0)) :: X,?_⟩
   simp only [xGI,List.append_assoc,List.cons_append,List.nil_append] at ih ⊢
   simp only [Int.natCast_zero] at ha2
   rw [xXC]
   simp (maxSteps := 30000000) (disch := first | assumption | omega | (simp only [WL,AV.isCell,xAb,xAa] <;> omega) | rfl | decide) only [xR7,WB,hlt,↓reduceIte,xCF,AV.cells,AV.isCell,Nat.reduceAdd,hsl,hsr,ha1,ha2,xAm,hs2,ho,xUA,ih]
def Clo (rl : List Rl) (U : Nat → Bool) : Prop := ∀ u ∈ rl,U u.l.toNat = true → U u.r.toNat = true → U u.t.toNat = true
theorem xSD : ∀ (l rl : List Rl) (s : Nat) (U : Nat → Bool),(∀ u ∈ l,u ∈ rl) → Clo rl U → (∀ j,s.testBit j = true → U j = true) → ∀ j,(xJK s l).testBit j = true → U j = true
 | [],rl,s,U,_,_,h,j,hj => h j hj
 | u :: t,rl,s,U,hm,hU,h,j,hj => by
  refine xSD t rl _ U (fun v hv => hm v (List.mem_cons_of_mem _ hv)) hU ?_ j hj
  intro j hj
  split at hj
  ·rename_i c
   rw [Nat.testBit_or,Nat.testBit_two_pow] at hj
   simp only [Bool.or_eq_true,decide_eq_true_eq] at hj
   rcases hj with hj | rfl
   ·exact h j hj
   ·simp only [Bool.and_eq_true] at c
    exact hU u (hm u (List.mem_cons_self ..)) (h _ c.1) (h _ c.2)
  ·exact h j hj
theorem xUT (l : List Rl) (s : Nat) : s ≤ xJK s l := by
 have : s ||| xJK s l = xJK s l := by
  apply Nat.eq_of_testBit_eq
  intro j
  rw [Nat.testBit_or]
  cases h : s.testBit j with
  | false => simp
  | true => rw [xOs l s j h]; rfl
 rw [← this]
 exact Nat.left_le_or
theorem xSE : ∀ (l : List Rl) (s : Nat),xJK s l = s → Clo l (fun j => s.testBit j)
 | [],s,_,u,hu,_,_ => by simp at hu
 | v :: t,s,h,u,hu,h1,h2 => by
  rw [xJK] at h
  have h3 : (if (s.testBit v.l.toNat && s.testBit v.r.toNat) = true then s ||| 2 ^ v.t.toNat else s) = s := by
   have a := xUT t (if (s.testBit v.l.toNat && s.testBit v.r.toNat) = true then s ||| 2 ^ v.t.toNat else s)
   rw [h] at a
   by_cases c : (s.testBit v.l.toNat && s.testBit v.r.toNat) = true
   ·rw [if_pos c] at a ⊢
    have := @Nat.left_le_or s (2 ^ v.t.toNat)
    omega
   ·rw [if_neg c]
  rcases List.mem_cons.1 hu with rfl | hu
  ·simp only at h1 h2 ⊢
   rw [if_pos (by rw [h1,h2]; rfl)] at h3
   rw [← h3]
   simp
  ·rw [h3] at h
   exact xSE t s h u hu h1 h2
theorem yB4 {n : Aut} (hl : n.rl.length < 1099511627776) (hb : xTF n.rl) (s : Nat) (hs : s < 18446744073709551616) {G : Heap} (hG : G[0]? = some (.cells false false n.cells)) :
  ∃ X,L.icall (.func 87 [.ptr 0 0]) [.int .u64 (s : Nat)] G = some (.int .u64 (xJK s n.rl : Nat),G ++ X) := by
 obtain ⟨X,h⟩ := xOt (z := n.z3) hl hb n.rl.length 0 s G (by omega) hs
 refine ⟨X,?_⟩
 simp only [Int.natCast_zero,List.drop_zero] at h
 rw [yIi,a87]
 simp (maxSteps := 30000000) (disch := first | assumption | omega | (simp only [WL,AV.isCell,xAb,xAa] <;> omega) | rfl | decide) only [WB,Nat.reduceAdd,Nat.reduceSub,hG,xUA,h,↓reduceIte]
theorem xPG {n : Aut} (hl : n.rl.length < 1099511627776) (hb : xTF n.rl) : ∀ m s (G : Heap),18446744073709551616 - s ≤ m → s < 18446744073709551616 → G[0]? = some (.cells false false n.cells) →
  ∃ w X,L.loop xPn xXB ⟨xOc (.int .u64 (s : Nat)) (.func 87 [.ptr 0 0]) (.int .u64 (xJK s n.rl : Nat)),G⟩ = some (.exit 0,⟨xOc (.int .u64 (w : Nat)) (.func 87 [.ptr 0 0]) (.int .u64 (w : Nat)),G ++ X⟩) ∧
   w < 18446744073709551616 ∧ xJK w n.rl = w ∧ (∀ j,s.testBit j = true → w.testBit j = true) ∧ (∀ U,Clo n.rl U → (∀ j,s.testBit j = true → U j = true) → ∀ j,w.testBit j = true → U j = true)
 | 0,s,G,hm,hs,hG => by omega
 | m + 1,s,G,hm,hs,hG => by
  have hp := xUS n.rl s hs hb
  by_cases c : xJK s n.rl = s
  ·refine ⟨s,[],?_,hs,c,fun j h => h,fun U _ h => h⟩
   rw [c,List.append_nil,xUz]
   simp (disch := omega) only [xPm,WB,↓reduceIte,xPo]
  ·have hle := xUT n.rl s
   have hne : ((((xJK s n.rl : Nat) : Int) = ((s : Nat) : Int))) = False := eq_false (by omega)
   obtain ⟨X1,h1⟩ := yB4 hl hb (xJK s n.rl) hp hG
   obtain ⟨w,X,h2,h3,h4,h5,h6⟩ := xPG hl hb m (xJK s n.rl) (G ++ X1) (by omega) hp (by rw [List.getElem?_append_left (List.getElem?_eq_some_iff.1 hG).1,hG])
   refine ⟨w,X1 ++ X,?_,h3,h4,fun j h => h5 j (xOs _ _ _ h),fun U hU h => h6 U hU (xSD n.rl n.rl s U (fun _ h => h) hU h)⟩
   rw [List.append_assoc] at h2
   rw [xUz]
   simp (disch := omega) only [xPm,WB,hne,↓reduceIte,h1,xPo,h2]
theorem xPH {n : Aut} (hl : n.rl.length < 1099511627776) (hb : xTF n.rl) (hn : n.st.length < 1099511627776) (hq : ∀ q ∈ n.st,0 ≤ q ∧ q < 64) :
  ∃ w,L.pcall 55 [n.av] = some (.int .u64 (w : Nat)) ∧ w < 18446744073709551616 ∧ xJK w n.rl = w ∧ (∀ j,(xIT 0 n.st).testBit j = true → w.testBit j = true) ∧ (∀ U,Clo n.rl U → (∀ j,(xIT 0 n.st).testBit j = true → U j = true) → ∀ j,w.testBit j = true → U j = true) := by
 have hw := xQk n.z1 n.st hn hq
 have hE := xLw n.st 0 (by omega) hq
 generalize xIT 0 n.st = E at *
 obtain ⟨X1,h1⟩ := yB4 (G := [.cells false false n.cells]) hl hb E hE rfl
 obtain ⟨w,X,h2,h3,h4,h5,h6⟩ := xPG hl hb 18446744073709551616 E ([.cells false false n.cells] ++ X1) (by omega) hE rfl
 refine ⟨w,?_,h3,h4,h5,h6⟩
 have h86 : L.icall (.func 86 []) [.int .u64 (E : Nat),.func 87 [.ptr 0 0]] [.cells false false n.cells] = some (.int .u64 (w : Nat),[.cells false false n.cells] ++ X1 ++ X) := by
  rw [yG1,a86]
  simp (maxSteps := 30000000) (disch := first | assumption | omega | (simp only [WL,AV.isCell,xAb,xAa] <;> omega) | rfl | decide) only [WB,Nat.reduceAdd,Nat.reduceSub,h1,xPo]
  simp only [List.cons_append,List.nil_append] at h2 ⊢
  simp (maxSteps := 30000000) (disch := first | assumption | omega | (simp only [WL,AV.isCell,xAb,xAa] <;> omega) | rfl | decide) only [h2,WB,↓reduceIte]
 rw [yH5,a55,xAd]
 simp (maxSteps := 30000000) (disch := first | assumption | omega | (simp only [WL,AV.isCell,xAb,xAa] <;> omega) | rfl | decide) only [WB,Nat.reduceSub,AV.cells,AV.isCell,↓reduceIte,hw,xE0,xAJ,h86]
theorem xSF {fv : AV} {M : Nat → Nat} {Q : Heap → Prop} (hf : ∃ f cs,fv = .func f cs) (hQ : ∀ G X,Q G → Q (G ++ X)) (hstep : ∀ s G,s < 18446744073709551616 → Q G → ∃ X,L.icall fv [.int .u64 (s : Nat)] G = some (.int .u64 (M s : Nat),G ++ X))
  (hlt : ∀ s,s < 18446744073709551616 → M s < 18446744073709551616) (hle : ∀ s,s ≤ M s) : ∀ m s (G : Heap),18446744073709551616 - s ≤ m → s < 18446744073709551616 → Q G →
  ∃ w X,L.loop xPn xXB ⟨xOc (.int .u64 (s : Nat)) fv (.int .u64 (M s : Nat)),G⟩ = some (.exit 0,⟨xOc (.int .u64 (w : Nat)) fv (.int .u64 (w : Nat)),G ++ X⟩) ∧
   w < 18446744073709551616 ∧ M w = w ∧ ∀ P : Nat → Prop,P s → (∀ x,P x → P (M x)) → P w
 | 0,s,G,hm,hs,hG => by omega
 | m + 1,s,G,hm,hs,hG => by
  have hp := hlt s hs
  have hl := hle s
  by_cases c : M s = s
  ·refine ⟨s,[],?_,hs,c,fun P h _ => h⟩
   obtain ⟨f,cs,rfl⟩ := hf
   rw [c,List.append_nil,xUz]
   simp (disch := omega) only [xPm,WB,↓reduceIte,xPo]
  ·have hne : ((((M s : Nat) : Int) = ((s : Nat) : Int))) = False := eq_false (by omega)
   obtain ⟨X1,h1⟩ := hstep (M s) G hp hG
   obtain ⟨w,X,h2,h3,h4,h5⟩ := xSF hf hQ hstep hlt hle m (M s) (G ++ X1) (by omega) hp (hQ _ _ hG)
   refine ⟨w,X1 ++ X,?_,h3,h4,fun P p0 pn => h5 P (pn _ p0) pn⟩
   rw [List.append_assoc] at h2
   obtain ⟨f,cs,rfl⟩ := hf
   rw [xUz]
   simp (disch := omega) only [xPm,WB,hne,↓reduceIte,h1,xPo,h2]
theorem xTH {fv : AV} {M : Nat → Nat} {Q : Heap → Prop} (hf : ∃ f cs,fv = .func f cs) (hQ : ∀ G X,Q G → Q (G ++ X)) (hstep : ∀ s G,s < 18446744073709551616 → Q G → ∃ X,L.icall fv [.int .u64 (s : Nat)] G = some (.int .u64 (M s : Nat),G ++ X))
  (hlt : ∀ s,s < 18446744073709551616 → M s < 18446744073709551616) (hle : ∀ s,s ≤ M s) (s : Nat) (G : Heap) (hs : s < 18446744073709551616) (hG : Q G) :
  ∃ w X,L.icall (.func 86 []) [.int .u64 (s : Nat),fv] G = some (.int .u64 (w : Nat),G ++ X) ∧ w < 18446744073709551616 ∧ M w = w ∧ ∀ P : Nat → Prop,P s → (∀ x,P x → P (M x)) → P w := by
 obtain ⟨X1,h1⟩ := hstep s G hs hG
 obtain ⟨w,X,h2,h3,h4,h5⟩ := xSF hf hQ hstep hlt hle 18446744073709551616 s (G ++ X1) (by omega) hs (hQ _ _ hG)
 refine ⟨w,X1 ++ X,?_,h3,h4,h5⟩
 rw [List.append_assoc] at h2
 obtain ⟨f,cs,rfl⟩ := hf
 rw [yG1,a86]
 simp (disch := omega) only [WB,Nat.reduceAdd,Nat.reduceSub,h1,xPo,h2,↓reduceIte]
def xNh (seen s : Nat) : List Rl → Nat
 | [] => s
 | u :: t => xNh seen (if (s.testBit u.t.toNat && (seen.testBit u.l.toNat && seen.testBit u.r.toNat)) = true then s ||| (2 ^ u.l.toNat ||| 2 ^ u.r.toNat) else s) t
theorem xUU (seen : Nat) : ∀ (l : List Rl) (s : Nat),s < 18446744073709551616 → xTF l → xNh seen s l < 18446744073709551616
 | [],s,h,_ => h
 | u :: t,s,h,hb => by
  have hu := hb u (List.mem_cons_self ..)
  refine xUU seen t _ ?_ (fun e he => hb e (List.mem_cons_of_mem _ he))
  split
  ·exact xNg h (xNg (xOm (by omega)) (xOm (by omega)))
  ·exact h
theorem xOu (seen : Nat) : ∀ (l : List Rl) (s j : Nat),s.testBit j = true → (xNh seen s l).testBit j = true
 | [],s,j,h => h
 | u :: t,s,j,h => xOu seen t _ j (by split <;> simp [h])
theorem yE7 {s w : Nat} (h : ∀ j,s.testBit j = true → w.testBit j = true) : s ≤ w := by
 have : s ||| w = w := by
  apply Nat.eq_of_testBit_eq
  intro j
  rw [Nat.testBit_or]
  cases e : s.testBit j with
  | false => simp
  | true => rw [h j e]; rfl
 rw [← this]
 exact Nat.left_le_or
theorem xUV (seen : Nat) (l : List Rl) (s : Nat) : s ≤ xNh seen s l := yE7 (xOu seen l s)
def yF1 (rl : List Rl) (S U : Nat → Bool) : Prop := ∀ u ∈ rl,U u.t.toNat = true → S u.l.toNat = true → S u.r.toNat = true → U u.l.toNat = true ∧ U u.r.toNat = true
theorem xSG (seen : Nat) : ∀ (l : List Rl) (s : Nat),xNh seen s l = s → yF1 l (fun j => seen.testBit j) (fun j => s.testBit j)
 | [],s,_,u,hu,_,_,_ => by simp at hu
 | v :: t,s,h,u,hu,h1,h2,h3 => by
  rw [xNh] at h
  have h4 : (if (s.testBit v.t.toNat && (seen.testBit v.l.toNat && seen.testBit v.r.toNat)) = true then s ||| (2 ^ v.l.toNat ||| 2 ^ v.r.toNat) else s) = s := by
   have a := xUV seen t (if (s.testBit v.t.toNat && (seen.testBit v.l.toNat && seen.testBit v.r.toNat)) = true then s ||| (2 ^ v.l.toNat ||| 2 ^ v.r.toNat) else s)
   rw [h] at a
   by_cases c : (s.testBit v.t.toNat && (seen.testBit v.l.toNat && seen.testBit v.r.toNat)) = true
   ·rw [if_pos c] at a ⊢
    have := @Nat.left_le_or s (2 ^ v.l.toNat ||| 2 ^ v.r.toNat)
    omega
   ·rw [if_neg c]
  rcases List.mem_cons.1 hu with rfl | hu
  ·simp only at h1 h2 h3 ⊢
   rw [if_pos (by rw [h1,h2,h3]; rfl)] at h4
   constructor
   ·rw [← h4]; simp
   ·rw [← h4]; simp
  ·rw [h4] at h
   exact xSG seen t s h u hu h1 h2 h3
theorem xSH (seen : Nat) : ∀ (l rl : List Rl) (s : Nat) (U : Nat → Bool),(∀ u ∈ l,u ∈ rl) → yF1 rl (fun j => seen.testBit j) U → (∀ j,s.testBit j = true → U j = true) → ∀ j,(xNh seen s l).testBit j = true → U j = true
 | [],rl,s,U,_,_,h,j,hj => h j hj
 | u :: t,rl,s,U,hm,hU,h,j,hj => by
  refine xSH seen t rl _ U (fun v hv => hm v (List.mem_cons_of_mem _ hv)) hU ?_ j hj
  intro j hj
  split at hj
  ·rename_i c
   rw [Nat.testBit_or,Nat.testBit_or,Nat.testBit_two_pow,Nat.testBit_two_pow] at hj
   simp only [Bool.or_eq_true,decide_eq_true_eq] at hj
   simp only [Bool.and_eq_true] at c
   have := hU u (hm u (List.mem_cons_self ..)) (h _ c.1) c.2.1 c.2.2
   rcases hj with hj | rfl | rfl
   ·exact h j hj
   ·exact this.1
   ·exact this.2
  ·exact h j hj
theorem xMu {z : Bool} {rl : List Rl} {seen : Nat} (hl : rl.length < 1099511627776) (hb : xTF rl) (hS : seen < 18446744073709551616) : ∀ d i s G,i + d = rl.length → s < 18446744073709551616 → G[1]? = some (.cells false false [.int .u64 (seen : Nat)]) →
  ∃ X,L.loop xSa yAr ⟨xSb (.int .u64 (s : Nat)) (.ptr 1 0) (.sl z rl.length (rls rl)) (.int .i64 (rl.length : Nat)) (.int .i64 (i : Nat)),G⟩ =
   some (.exit 0,⟨xSb (.int .u64 (xNh seen s (rl.drop i) : Nat)) (.ptr 1 0) (.sl z rl.length (rls rl)) (.int .i64 (rl.length : Nat)) (.int .i64 (rl.length : Nat)),G ++ X⟩)
 | 0,i,s,G,h,hs,hG => by
  obtain rfl : i = rl.length := by omega
  refine ⟨[],?_⟩
  rw [List.drop_length,xNh,xUB,List.append_nil]
  simp (maxSteps := 30000000) (disch := first | assumption | omega | (simp only [WL,AV.isCell,xAb,xAa] <;> omega) | rfl | decide) only [xPp,WB,↓reduceIte,xSc]
 | d + 1,i,s,G,h,hs,hG => by
  have hlt : (i : Int) < (rl.length : Nat) := by omega
  obtain ⟨⟨l0,l1⟩,⟨r0',r1⟩,⟨t0,t1⟩,p1,n1⟩ := hb _ (xIN (by omega : i < rl.length))
  have hst := yAH s (show (rl.getD i r0).t.toNat ≤ IntKind.u64.bits from by show _ ≤ 64; omega)
  have hbt := yF0 hs (rl.getD i r0).t.toNat
  have hsl := yAH seen (show (rl.getD i r0).l.toNat ≤ IntKind.u64.bits from by show _ ≤ 64; omega)
  have hsr := yAH seen (show (rl.getD i r0).r.toNat ≤ IntKind.u64.bits from by show _ ≤ 64; omega)
  have sh : ∀ a,seen >>> a < 18446744073709551616 := fun a => Nat.lt_of_le_of_lt (by rw [Nat.shiftRight_eq_div_pow]; exact Nat.div_le_self ..) hS
  have ha1 := xTG (sh (rl.getD i r0).l.toNat) (sh (rl.getD i r0).r.toNat)
  have ha2 := xTG (Nat.lt_of_le_of_lt Nat.and_le_left (sh (rl.getD i r0).l.toNat) : seen >>> (rl.getD i r0).l.toNat &&& seen >>> (rl.getD i r0).r.toNat < 18446744073709551616) (show 1 < 18446744073709551616 by omega)
  rw [yHg,show ((1 : Nat) : Int) = 1 from rfl] at ha2
  have hpl := xOm (show (rl.getD i r0).l.toNat < 64 by omega)
  have hpr := xOm (show (rl.getD i r0).r.toNat < 64 by omega)
  have hs1 := xVS (show (rl.getD i r0).l.toNat < 64 by omega)
  have hs2 := xVS (show (rl.getD i r0).r.toNat < 64 by omega)
  have ho1 := yDA hpl hpr
  have ho2 := yDA hs (xNg hpl hpr)
  have hg : ∀ X : Heap,(G ++ X)[1]? = some (.cells false false [.int .u64 (seen : Nat)]) := fun X => xAu hG
  rw [xHR (by omega : i < rl.length),xNh]
  by_cases c1 : s.testBit (rl.getD i r0).t.toNat = true
  ·rw [if_pos c1] at hbt
   by_cases c2 : (seen.testBit (rl.getD i r0).l.toNat && seen.testBit (rl.getD i r0).r.toNat) = true
   ·rw [if_pos c2] at ha2
    rw [if_pos (by rw [c1,c2]; rfl)]
    obtain ⟨X,ih⟩ := xMu (z := z) hl hb hS d (i + 1) (s ||| (2 ^ (rl.getD i r0).l.toNat ||| 2 ^ (rl.getD i r0).r.toNat)) (G ++ [.cells false false (xGI (rl.getD i r0))]) (by omega) (xNg hs (xNg hpl hpr)) (hg _)
    refine ⟨.cells false false (xGI (rl.getD i r0)) :: X,?_⟩
    simp only [xGI,List.append_assoc,List.cons_append,List.nil_append] at ih ⊢
    simp only [Int.natCast_one] at ha2
    rw [xUB]
    simp (maxSteps := 30000000) (disch := first | assumption | omega | (simp only [WL,AV.isCell,xAb,xAa] <;> omega) | rfl | decide) only [xPp,WB,hlt,↓reduceIte,xCF,AV.cells,AV.isCell,Nat.reduceAdd,hst,hbt,Int.reduceEq,hg,hsl,hsr,xAm,ha1,ha2,hs1,hs2,ho1,ho2,xSc,ih]
   ·rw [if_neg c2] at ha2
    rw [if_neg (by rw [c1,Bool.true_and]; exact c2)]
    obtain ⟨X,ih⟩ := xMu (z := z) hl hb hS d (i + 1) s (G ++ [.cells false false (xGI (rl.getD i r0))]) (by omega) hs (hg _)
    refine ⟨.cells false false (xGI (rl.getD i r0)) :: X,?_⟩
    simp only [xGI,List.append_assoc,List.cons_append,List.nil_append] at ih ⊢
    simp only [Int.natCast_zero] at ha2
    rw [xUB]
    simp (maxSteps := 30000000) (disch := first | assumption | omega | (simp only [WL,AV.isCell,xAb,xAa] <;> omega) | rfl | decide) only [xPp,WB,hlt,↓reduceIte,xCF,AV.cells,AV.isCell,Nat.reduceAdd,hst,hbt,Int.reduceEq,hg,hsl,hsr,xAm,ha1,ha2,xSc,ih]
  ·rw [if_neg c1] at hbt
   rw [if_neg (by simp only [Bool.not_eq_true] at c1; rw [c1]; simp)]
   obtain ⟨X,ih⟩ := xMu (z := z) hl hb hS d (i + 1) s (G ++ [.cells false false (xGI (rl.getD i r0))]) (by omega) hs (hg _)
   refine ⟨.cells false false (xGI (rl.getD i r0)) :: X,?_⟩
   simp only [xGI,List.append_assoc,List.cons_append,List.nil_append] at ih ⊢
   rw [xUB]
   simp (maxSteps := 30000000) (disch := first | assumption | omega | (simp only [WL,AV.isCell,xAb,xAa] <;> omega) | rfl | decide) only [xPp,WB,hlt,↓reduceIte,xCF,AV.cells,AV.isCell,Nat.reduceAdd,hst,hbt,xAm,xSc,ih]
abbrev xNi (num : List Int) (s : Int) : Int := num.getD s.toNat 0
def xNs (num : List Int) : List Int → List Int
 | [] => []
 | s :: l => if 0 ≤ xNi num s then xNi num s :: xNs num l else xNs num l
def mvR (num : List Int) (u : Rl) : Rl := ⟨xNi num u.l,xNi num u.r,xNi num u.t,u.p,u.n⟩
def xVW (num : List Int) : List Rl → List Rl
 | [] => []
 | u :: l => if 0 ≤ min (min (xNi num u.l) (xNi num u.r)) (xNi num u.t) then mvR num u :: xVW num l else xVW num l
theorem xUW (num : List Int) : ∀ l,(xNs num l).length ≤ l.length
 | [] => by simp [xNs]
 | s :: l => by
  have := xUW num l
  rw [xNs]
  split <;> simp <;> omega
def yE8 (b : Nat) (G : Heap) (v : AV) (l : List Int) : Prop := (v = .sl true 0 [] ∧ l = []) ∨ ∃ k,b ≤ k ∧ v = .own false k 0 l.length 1 ∧ G[k]? = some (.cells false false (xD8 l))
theorem xMv {num : List Int} {zn z : Bool} {l : List Int} (hl : l.length < 1099511627776) (hq : ∀ q ∈ l,0 ≤ q ∧ q < (num.length : Nat)) : ∀ d i G v w,i + d = l.length → w.length ≤ i → yE8 0 G v w →
  ∃ G' v',L.loop xSd yAs ⟨xSe (.vptr [iw zn num] 0) v (iw z l) (.int .i64 (l.length : Nat)) (.int .i64 (i : Nat)),G⟩ =
   some (.exit 0,⟨xSe (.vptr [iw zn num] 0) v' (iw z l) (.int .i64 (l.length : Nat)) (.int .i64 (l.length : Nat)),G'⟩) ∧ yE8 0 G' v' (w ++ xNs num (l.drop i))
 | 0,i,G,v,w,h,hw,hO => by
  obtain rfl : i = l.length := by omega
  refine ⟨G,v,?_,by rw [List.drop_length,xNs,List.append_nil]; exact hO⟩
  rw [xUC]
  simp (maxSteps := 30000000) (disch := first | assumption | omega | (simp only [WL,AV.isCell,xAb,xAa] <;> omega) | rfl | decide) only [xPq,WB,↓reduceIte,xPr]
 | d + 1,i,G,v,w,h,hw,hO => by
  have hlt : (i : Int) < (l.length : Nat) := by omega
  have hi : i < l.length := by omega
  have hm : l.getD i 0 ∈ l := by
   rw [List.getD_eq_getElem?_getD,List.getElem?_eq_getElem hi]
   exact List.getElem_mem _
  obtain ⟨q0,q1⟩ := hq _ hm
  rw [xHA hi,xNs]
  by_cases c : 0 ≤ xNi num (l.getD i 0)
  ·rw [if_pos c]
   rcases hO with ⟨rfl,rfl⟩ | ⟨k,k0,rfl,hk⟩
   ·obtain ⟨G',v',e1,e2⟩ := xMv (zn := zn) (z := z) hl hq d (i + 1) (G ++ [.cells false false (xD8 [xNi num (l.getD i 0)])]) (.own false G.length 0 1 1) [xNi num (l.getD i 0)] (by omega) (by simp) (.inr ⟨G.length,by omega,by simp,by simp⟩)
    refine ⟨G',v',?_,by simpa using e2⟩
    simp only [xE4] at e1
    rw [xUC]
    simp (maxSteps := 30000000) (disch := first | assumption | omega | (simp only [WL,AV.isCell,xAb,xAa] <;> omega) | rfl | decide) only [xPq,WB,hlt,↓reduceIte,W2,c,AV.cells,AV.isCell,Nat.reduceBEq,xPr,e1]
   ·have hsn : xD8 w ++ [AV.int .i64 (xNi num (l.getD i 0))] = xD8 (w ++ [xNi num (l.getD i 0)]) := xOr ..
    obtain ⟨G',v',e1,e2⟩ := xMv (zn := zn) (z := z) hl hq d (i + 1) (G.set k Blk.dead ++ [Blk.cells false false (xD8 (w ++ [xNi num (l.getD i 0)]))]) (.own false G.length 0 (w.length + 1) 1) (w ++ [xNi num (l.getD i 0)]) (by omega) (by simp; omega) (.inr ⟨G.length,by omega,by simp,by simp⟩)
    refine ⟨G',v',?_,by simpa using e2⟩
    rw [xUC]
    simp (maxSteps := 30000000) (disch := first | assumption | omega | (simp only [WL,AV.isCell,xAb,xAa] <;> omega) | rfl | decide) only [xPq,WB,hlt,↓reduceIte,W2,c,AV.cells,AV.isCell,hk,Nat.reduceBEq,hsn,xPr,e1]
  ·rw [if_neg c]
   obtain ⟨G',v',e1,e2⟩ := xMv (zn := zn) (z := z) hl hq d (i + 1) G v w (by omega) (by omega) hO
   refine ⟨G',v',?_,e2⟩
   rw [xUC]
   simp (maxSteps := 30000000) (disch := first | assumption | omega | (simp only [WL,AV.isCell,xAb,xAa] <;> omega) | rfl | decide) only [xPq,WB,hlt,↓reduceIte,W2,c,xPr,e1]
theorem yAN (l : List Rl) (e : Rl) : rls l ++ xGI e = rls (l ++ [e]) := xKA xGI l [e]
abbrev yHh (num : List Int) (n : Aut) (z1 z2 z3 : Bool) : Aut := ⟨n.vars,0,z1,xNs num n.st,z2,xNs num n.fi,z3,xVW num n.rl⟩
theorem yE9 {n : Aut} {seen : Nat} (hl : n.rl.length < 1099511627776) (hb : xTF n.rl) (hS : seen < 18446744073709551616) (s : Nat) (hs : s < 18446744073709551616) {G : Heap} (hG : G[0]? = some (.cells false false n.cells) ∧ G[1]? = some (.cells false false [.int .u64 (seen : Nat)])) :
  ∃ X,L.icall (.func 88 [.ptr 0 0,.ptr 1 0]) [.int .u64 (s : Nat)] G = some (.int .u64 (xNh seen s n.rl : Nat),G ++ X) := by
 obtain ⟨h0,h1⟩ := hG
 obtain ⟨X,h⟩ := xMu (z := n.z3) hl hb hS n.rl.length 0 s G (by omega) hs h1
 refine ⟨X,?_⟩
 simp only [Int.natCast_zero,List.drop_zero] at h
 rw [yIj,a88]
 simp (maxSteps := 30000000) (disch := first | assumption | omega | (simp only [WL,AV.isCell,xAb,xAa] <;> omega) | rfl | decide) only [WB,Nat.reduceAdd,Nat.reduceSub,h0,xSc,h,↓reduceIte]
structure Use (n : Aut) (S w : Nat) : Prop where
 lt : w < 18446744073709551616
 slt : S < 18446744073709551616
 sfix : xJK S n.rl = S
 semp : ∀ j,(xIT 0 n.st).testBit j = true → S.testBit j = true
 smin : ∀ U,Clo n.rl U → (∀ j,(xIT 0 n.st).testBit j = true → U j = true) → ∀ j,S.testBit j = true → U j = true
 wfix : yF1 n.rl (fun j => S.testBit j) (fun j => w.testBit j)
 wfin : ∀ j,(xIT 0 n.fi).testBit j = true → S.testBit j = true → w.testBit j = true
 wmin : ∀ U,yF1 n.rl (fun j => S.testBit j) U → (∀ j,(xIT 0 n.fi).testBit j = true → S.testBit j = true → U j = true) → ∀ j,w.testBit j = true → U j = true
theorem yAO {n : Aut} (hT : TyA n) (hV : Valid n) : ∃ S w,L.pcall 57 [n.av] = some (.int .u64 (w : Nat)) ∧ Use n S w := by
 obtain ⟨S,s1,s2,s3,s4,s5⟩ := xPH hT.rl (hV.ok hT) hT.st hV.sts
 have hw := xQk n.z2 n.fi hT.fi hV.fis
 have hE := xLw n.fi 0 (by omega) hV.fis
 have ha := xTG hE s2
 have hlt : xIT 0 n.fi &&& S < 18446744073709551616 := Nat.lt_of_le_of_lt Nat.and_le_left hE
 obtain ⟨w,X,w1,w2,w3,w4⟩ := xTH (fv := .func 88 [.ptr 0 0,.ptr 1 0]) (M := fun s => xNh S s n.rl) (Q := fun G => G[0]? = some (.cells false false n.cells) ∧ G[1]? = some (.cells false false [.int .u64 (S : Nat)])) ⟨_,_,rfl⟩ (fun G X h => show (G ++ X)[0]? = some (.cells false false n.cells) ∧ (G ++ X)[1]? = some (.cells false false [.int .u64 (S : Nat)]) from ⟨xAu h.1,xAu h.2⟩)
  (fun s G hs hG => yE9 hT.rl (hV.ok hT) s2 s hs hG) (fun s hs => xUU S _ s hs (hV.ok hT)) (fun s => xUV S _ s) (xIT 0 n.fi &&& S) [.cells false false n.cells,.cells false false [.int .u64 (S : Nat)]] hlt ⟨rfl,rfl⟩
 refine ⟨S,w,?_,w2,s2,s3,s4,s5,xSG S _ _ w3,fun j h1 h2 => ?_,fun U hU hi => ?_⟩
 ·rw [yH7,a57,xAd]
  simp (maxSteps := 30000000) (disch := first | assumption | omega | (simp only [WL,AV.isCell,xAb,xAa] <;> omega) | rfl | decide) only [WB,Nat.reduceSub,AV.cells,AV.isCell,↓reduceIte,s1,xE0,xAJ,hw,ha,xAm,w1]
 ·refine w4 (fun x => x.testBit j = true) (by simp [h1,h2]) (fun x hx => xOu _ _ _ _ hx)
 ·refine w4 (fun x => ∀ j,x.testBit j = true → U j = true) (fun j hj => ?_) (fun x hx => xSH S n.rl n.rl x U (fun _ h => h) hU hx)
  rw [Nat.testBit_and,Bool.and_eq_true] at hj
  exact hi j hj.1 hj.2
def rnk (K : Nat → Bool) : Nat → Nat
 | 0 => 0
 | s + 1 => rnk K s + (if K s = true then 1 else 0)
def xMz (K : Nat → Bool) (n : Nat) : List Int := (List.range n).map fun s => if K s = true then (rnk K s : Int) else -1
theorem xUX (K : Nat → Bool) (n : Nat) : (xMz K n).length = n := by simp [xMz]
theorem xYq (K : Nat → Bool) : ∀ n,rnk K n ≤ n
 | 0 => Nat.le_refl _
 | n + 1 => by
  have := xYq K n
  rw [rnk]
  split <;> omega
theorem xUY {b0 b1 : Blk} {w n : Nat} (hn : n ≤ 64) (hw : w < 18446744073709551616) : ∀ d i,i + d = n →
  L.loop xO3 xXb ⟨xNX (.ptr 0 0) (.ptr 1 0) (.int .u64 (w : Nat)) (.own false 2 0 n 1) (.int .i64 (rnk (fun j => w.testBit j) i : Nat)) (.int .i64 (n : Nat)) (.int .i64 (i : Nat)),[b0,b1,.cells false false (xD8 (xMz (fun j => w.testBit j) i ++ List.replicate d 0))]⟩ =
   some (.exit 0,⟨xNX (.ptr 0 0) (.ptr 1 0) (.int .u64 (w : Nat)) (.own false 2 0 n 1) (.int .i64 (rnk (fun j => w.testBit j) n : Nat)) (.int .i64 (n : Nat)) (.int .i64 (n : Nat)),[b0,b1,.cells false false (xD8 (xMz (fun j => w.testBit j) n))]⟩)
 | 0,i,h => by
  obtain rfl : i = n := by omega
  rw [List.replicate_zero,List.append_nil,yBv]
  simp (maxSteps := 30000000) (disch := first | assumption | omega | (simp only [WL,AV.isCell,xAb,xAa] <;> omega) | rfl | decide) only [xQ4,Int.reduceNeg,WB,↓reduceIte,xT4]
 | d + 1,i,h => by
  have hlt : (i : Int) < (n : Nat) := by omega
  have hl := xUX (fun j => w.testBit j) i
  have hll : (xMz (fun j => w.testBit j) i ++ List.replicate (d + 1) 0).length = n := by simp [hl]; omega
  have ih := xUY (b0 := b0) (b1 := b1) hn hw d (i + 1) (by omega)
  have xGC : ∀ v : Int,(xMz (fun j => w.testBit j) i ++ List.replicate (d + 1) 0).set i v = xMz (fun j => w.testBit j) i ++ v :: List.replicate d 0 := fun v => by
   rw [List.set_append_right _ _ (by omega),hl,Nat.sub_self,List.replicate_succ,List.set_cons_zero]
  have hset2 : ∀ v v' : Int,(xMz (fun j => w.testBit j) i ++ v :: List.replicate d 0).set i v' = xMz (fun j => w.testBit j) i ++ v' :: List.replicate d 0 := fun v v' => by
   rw [List.set_append_right _ _ (by omega),hl,Nat.sub_self,List.set_cons_zero]
  have hl2 : ∀ v : Int,(xMz (fun j => w.testBit j) i ++ v :: List.replicate d 0).length = n := fun v => by simp [hl]; omega
  have hsh := yAH w (show i ≤ IntKind.u64.bits from by show _ ≤ 64; omega)
  have hb := yF0 hw i
  have hr := xYq (fun j => w.testBit j) i
  have hnx : xMz (fun j => w.testBit j) (i + 1) = xMz (fun j => w.testBit j) i ++ [if w.testBit i = true then (rnk (fun j => w.testBit j) i : Int) else -1] := by simp [xMz,List.range_succ]
  rw [hnx,rnk,List.append_assoc,List.cons_append,List.nil_append] at ih
  rw [yBv]
  by_cases c : w.testBit i = true
  ·rw [if_pos c] at hb
   rw [if_pos c,if_pos c] at ih
   simp (maxSteps := 30000000) (disch := first | assumption | omega | (simp only [WL,AV.isCell,xAb,xAa] <;> omega) | rfl | decide) only [xQ4,Int.reduceNeg,WB,hlt,↓reduceIte,AV.cells,W2,xGC,hsh,hb,Int.reduceEq,hset2,xT4,ih]
  ·rw [if_neg c] at hb
   rw [if_neg c,if_neg c,Nat.add_zero] at ih
   simp (maxSteps := 30000000) (disch := first | assumption | omega | (simp only [WL,AV.isCell,xAb,xAa] <;> omega) | rfl | decide) only [xQ4,Int.reduceNeg,WB,hlt,↓reduceIte,AV.cells,W2,xGC,hsh,hb,xT4,ih]
end Go.Abs.Tree
