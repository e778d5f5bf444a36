/- Operations on arrays and strings. -/
import Derived.Test.YtijmhicopfphnaaDoorAbsOp5
namespace Go.Abs
set_option linter.unusedVariables false
set_option linter.unusedSimpArgs false
open Go.RowKit
section
variable {chk : Code → ACode → Bool} {P : Program} {o : Oper} {a : Act} {im : Im} {io : Io} {H H' : Heap} {w : World} {F : List AV} {R : Rec} {v : AV}
theorem xZN {g : Bool} {es len : Nat} {x i : Arg} (hc : xAI P o (.idx g es len x i) = true) (hs : Sim chk im io H w) (hF : FRep im io F a) (h : xAc R F H (.idx g es len x i) = some (v,H')) : Good chk P o a im io w v H' := by
 simp only [xAI] at hc
 simp only [xAc] at h
 split at hc
 case h_2 => cases hc
 rename_i t x' i' ho
 split at hc
 case h_2 => cases hc
 rename_i n e hu
 simp only [Bool.and_eq_true,beq_iff_eq] at hc
 obtain ⟨⟨⟨⟨rfl,h1⟩,h2⟩,h3⟩,h4⟩ := hc
 have r1 := xAj h3 hF
 have r2 := xAj h4 hF
 split at h
 case h_2 => cases h
 rename_i cs j e1 e2
 split at h
 case isFalse => cases h
 rename_i hj
 simp only [Option.map_eq_some_iff,Prod.mk.injEq] at h
 obtain ⟨v',hm,rfl,rfl⟩ := h
 rw [e1] at r1
 obtain ⟨k,hv2⟩ := xGc e2 r2
 generalize hv : a.eval x' = cv at r1
 cases r1 with
 | agg hl hcc hk =>
  rename_i vs
  have hrs : Reps im io cs vs := ⟨hl,hcc⟩
  obtain ⟨m1,m2⟩ := xTj hm ((hrs.drop (j * es)).take es) (fun c hcm => hk c (List.mem_of_mem_drop (List.mem_of_mem_take hcm)))
  have hu' := xH8 h2 w
  have hb : (0 : Int) ≤ (j : Int) ∧ (j : Int) < (n : Int) := by omega
  cases g with
  | true =>
   refine .same hs (x := .agg ((vs.drop (j * es)).take es).toArray) ?_ (m1 rfl)
   have hex : vs.toArray.extract (j * es) (j * es + es) = ((vs.drop (j * es)).take es).toArray := by
    rw [List.extract_toArray,List.extract_eq_take_drop]
    congr 2; omega
   simp [execOp,ho,hv,hv2,Instr.index,asIntOf,run_underlying hu,hb,part,hu',xH7 h1,hex]
   intro q; omega
  | false =>
   obtain ⟨y,e3,e4⟩ := m2 rfl
   have hy : vs[j * es]? = some y := by
    have := congrArg (fun l => l[0]?) e3
    simp [List.getElem?_take,List.getElem?_drop] at this
    exact this.2
   refine .same hs (x := y) ?_ e4
   have hy' : vs.toArray[j * es]? = some y := by simpa using hy
   simp [execOp,ho,hv,hv2,Instr.index,asIntOf,run_underlying hu,hb,part,hu',xH7 h1,hy]
   intro q; omega
theorem xVJ {es len : Nat} {x i : Arg} (hc : xAI P o (.arrat es len x i) = true) (hs : Sim chk im io H w) (hF : FRep im io F a) (h : xAc R F H (.arrat es len x i) = some (v,H')) : Good chk P o a im io w v H' := by
 simp only [xAI] at hc
 simp only [xAc] at h
 split at hc
 case h_2 => cases hc
 rename_i t x' i' ho
 split at hc
 case h_2 => cases hc
 rename_i n e hu
 simp only [Bool.and_eq_true,beq_iff_eq] at hc
 obtain ⟨⟨⟨rfl,h1⟩,h3⟩,h4⟩ := hc
 have r1 := xAj h3 hF
 have r2 := xAj h4 hF
 have hsz := xH7 h1
 have run : ∀ b o' k (j : Nat),a.eval x' = .pointer (some ⟨b,o',none⟩) → a.eval i' = .int k j → j < n → (execOp a.eval o).run P w = .ok (.value (.pointer (some ⟨b,o' + j * es,none⟩))) w := fun b o' k j hv1 hv2 hlt => by
  have hb : (0 : Int) ≤ (j : Int) ∧ (j : Int) < (n : Int) := by omega
  simp [execOp,ho,hv1,hv2,Instr.indexAt,Instr.sureAddr,asIntOf,run_underlying hu,hb,hsz,Addr.add_lit]
  omega
 split at h
 ·rename_i id off j e1 e2
  split at h
  case isFalse => cases h
  rename_i hlt
  cases h
  rw [e1] at r1
  obtain ⟨k,hv2⟩ := xGc e2 r2
  generalize hv : a.eval x' = cv at r1 run
  cases r1 with
  | ptr hio => exact .same hs (run _ _ _ _ rfl hv2 hlt) (.ptr hio)
 ·rename_i cs off j e1 e2
  split at h
  case isFalse => cases h
  rename_i hlt
  cases h
  rw [e1] at r1
  obtain ⟨k,hv2⟩ := xGc e2 r2
  generalize hv : a.eval x' = cv at r1 run
  cases r1 with
  | vptr hr hl hcc hk =>
   refine .same hs (run _ _ _ _ rfl hv2 hlt) ?_
   rw [Nat.add_assoc]
   exact .vptr hr hl hcc hk
 ·cases h
theorem xWU {b es len : Nat} {i : Arg} (hc : xAI P o (.garr b es len i) = true) (hs : Sim chk im io H w) (hF : FRep im io F a) (h : xAc R F H (.garr b es len i) = some (v,H')) : Good chk P o a im io w v H' := by
 simp only [xAI] at hc
 simp only [xAc] at h
 split at hc
 case h_2 => cases hc
 rename_i t b' i' ho
 split at hc
 case h_2 => cases hc
 rename_i n e hu
 simp only [Bool.and_eq_true,beq_iff_eq] at hc
 obtain ⟨⟨⟨rfl,rfl⟩,h1⟩,h4⟩ := hc
 have r2 := xAj h4 hF
 have hsz := xH7 h1
 split at h
 case h_2 => cases h
 rename_i cs j e1 e2
 split at h
 case isFalse => cases h
 rename_i hlt
 cases h
 obtain ⟨k,hv2⟩ := xGc e2 r2
 have hb : (0 : Int) ≤ (j : Int) ∧ (j : Int) < (n : Int) := by omega
 obtain ⟨vs,g1,g2,g3,g4⟩ := hs.glob _ _ e1
 have r := Rep.vptr (io := io) (off := j * es) g1 g2 g3 g4
 rw [Nat.zero_add] at r
 refine .same hs ?_ r
 have hg : a.eval (.global b') = .pointer (some ⟨b',0,none⟩) := rfl
 simp [execOp,ho,hv2,hg,Instr.indexAt,Instr.sureAddr,asIntOf,run_underlying hu,hb,hsz,Addr.add_lit]
 intro q; omega
theorem xWV {x i : Arg} (hc : xAI P o (.sidx x i) = true) (hs : Sim chk im io H w) (hF : FRep im io F a) (h : xAc R F H (.sidx x i) = some (v,H')) : Good chk P o a im io w v H' := by
 simp only [xAI] at hc
 simp only [xAc] at h
 split at hc
 case h_2 => cases hc
 rename_i t x' i' ho
 split at hc
 case h_2 => cases hc
 rename_i hu
 simp only [Bool.and_eq_true] at hc
 have r1 := xAj hc.1 hF
 have r2 := xAj hc.2 hF
 split at h
 case h_2 => cases h
 rename_i s j e1 e2
 simp only [Option.map_eq_some_iff,Prod.mk.injEq] at h
 obtain ⟨y,hy,rfl,rfl⟩ := h
 rw [e1] at r1
 obtain ⟨k,hv2⟩ := xGc e2 r2
 generalize hv : a.eval x' = cv at r1
 cases r1
 refine .same hs (x := .int .u8 y.toNat) ?_ .int
 simp [execOp,ho,hv,hv2,Instr.index,asIntOf,run_underlying hu,hy]
theorem xWW {x : Arg} (hc : xAI P o (.slen x) = true) (hs : Sim chk im io H w) (hF : FRep im io F a) (h : xAc R F H (.slen x) = some (v,H')) : Good chk P o a im io w v H' := by
 simp only [xAI] at hc
 simp only [xAc] at h
 split at hc
 case h_2 => cases hc
 rename_i xs ts ho
 split at hc
 case h_2 => cases hc
 rename_i x' t hxs hts
 split at hc
 case h_2 => cases hc
 rename_i hu
 have r1 := xAj hc hF
 split at h
 case h_2 => cases h
 rename_i s e1
 cases h
 rw [e1] at r1
 generalize hv : a.eval x' = cv at r1
 cases r1
 have hx : xs = #[x'] := by rw [← Array.toList_inj]; simpa using hxs
 have ht : ts[0]? = some t := by rw [← Array.getElem?_toList,hts]; rfl
 refine .same hs (x := .int .i64 s.size) ?_ .int
 subst hx
 simp [execOp,ho,resolve,invoke,builtin,Builtin.len_,ht,hv,run_underlying hu,goInt]
end
end Go.Abs
