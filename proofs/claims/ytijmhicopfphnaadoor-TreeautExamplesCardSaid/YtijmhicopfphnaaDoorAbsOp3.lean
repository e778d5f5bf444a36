/- The operations that reckon addresses,read and write cells. -/
import Derived.Test.YtijmhicopfphnaaDoorAbsOp2
namespace Go.Abs
set_option linter.unusedVariables false
set_option linter.unusedSimpArgs false
open Go.RowKit
section
variable {chk : Code → ACode → Bool} {P : Program} {o : Oper} {a : Act} {im : Im} {io : Io} {H H' : Heap} {w : World} {F : List AV} {R : Rec} {v : AV}
theorem xGc {x : AV} {n : Nat} {y : Value} (h : xGn x = some n) (hr : Rep im io x y) : ∃ k,y = .int k n := by
 unfold xGn at h
 split at h
 ·split at h
  ·cases h
   cases hr
   rename_i k i hi
   exact ⟨k,by rw [Int.toNat_of_nonneg hi]⟩
  ·cases h
 ·cases h
theorem xVx {off : Nat} {x : Arg} (hc : xAI P o (.faddr off x) = true) (hs : Sim chk im io H w) (hF : FRep im io F a) (h : xAc R F H (.faddr off x) = some (v,H')) : Good chk P o a im io w v H' := by
 simp only [xAI] at hc
 simp only [xAc] at h
 split at hc
 ·rename_i t y i ho
  split at hc
  ·rename_i off' ft hf
   simp only [Bool.and_eq_true,beq_iff_eq] at hc
   obtain ⟨⟨rfl,h2⟩,h3⟩ := hc
   split at h2
   ·rename_i n hn
    have hn0 : ¬ n = 0 := by simpa using h2
    obtain ⟨fs,f,hu,hfi,ho1,ho2⟩ := xQY hf
    simp only at ho1 ho2
    have r1 := xAj h3 hF
    have hsz := xH7 hn
    have run : ∀ b o',a.eval y = .pointer (some ⟨b,o',none⟩) → (execOp a.eval o).run P w = .ok (.value (.pointer (some ⟨b,o' + off',none⟩))) w := fun b o' hv => by
     simp [execOp,ho,hv,Instr.fieldAt,run_underlying hu,hfi,Instr.sureAddr,fieldPlace,ho2,hsz,hn0,ho1,Addr.add_lit]
    split at h
    ·rename_i e1
     cases h
     rw [e1] at r1
     generalize hv : a.eval y = cv at r1 run
     cases r1 with
     | ptr hio => exact .same hs (run _ _ rfl) (.ptr hio)
    ·rename_i e1
     cases h
     rw [e1] at r1
     generalize hv : a.eval y = cv at r1 run
     cases r1 with
     | vptr hr hl hcc hk =>
      refine .same hs (run _ _ rfl) ?_
      rw [Nat.add_assoc]
      exact .vptr hr hl hcc hk
    ·cases h
   ·cases h2
  ·cases hc
 ·cases hc
theorem xVy {es : Nat} {x i : Arg} (hc : xAI P o (.iaddr es x i) = true) (hs : Sim chk im io H w) (hF : FRep im io F a) (h : xAc R F H (.iaddr es x i) = some (v,H')) : Good chk P o a im io w v H' := by
 simp only [xAI] at hc
 simp only [xAc] at h
 split at hc
 ·rename_i t x' i' ho
  split at hc
  ·rename_i e he
   simp only [Bool.and_eq_true,beq_iff_eq] at hc
   obtain ⟨⟨h1,h2⟩,h3⟩ := hc
   have hu := xGN he
   have hsz := xH7 h1
   have r1 := xAj h2 hF
   have r2 := xAj h3 hF
   have run : ∀ b o' n cap k (j : Nat),a.eval x' = .slice (some ⟨b,o',none⟩) n cap → a.eval i' = .int k j → j < n → (execOp a.eval o).run P w = .ok (.value (.pointer (some ⟨b,o' + j * es,none⟩))) w := fun b o' n cap k j hv1 hv2 hlt => by
    have hb : (0 : Int) ≤ (j : Int) ∧ (j : Int) < (n : Int) := by omega
    simp [execOp,ho,hv1,hv2,Instr.indexAt,asIntOf,run_underlying hu,hb,hsz,Addr.add_lit]
    omega
   split at h
   ·rename_i n cs j e1 e2
    split at h
    ·rename_i hlt
     cases h
     rw [e1] at r1
     obtain ⟨k,hv2⟩ := xGc e2 r2
     generalize hv : a.eval x' = cv at r1 run
     cases r1 with
     | slz => omega
     | sl0 => omega
     | sl hr hl hcap hcc hk => exact .same hs (run _ _ _ _ _ _ rfl hv2 hlt) (.vptr hr hl hcc hk)
    ·cases h
   ·rename_i id off n es' j e1 e2
    split at h
    ·rename_i hlt
     obtain ⟨hlt,rfl⟩ := hlt
     cases h
     rw [e1] at r1
     obtain ⟨k,hv2⟩ := xGc e2 r2
     generalize hv : a.eval x' = cv at r1 run
     cases r1 with
     | ownz => omega
     | own0 => omega
     | own hio hcap hsz' => exact .same hs (run _ _ _ _ _ _ rfl hv2 hlt) (.ptr hio)
    ·cases h
   ·cases h
  ·cases hc
 ·cases hc
theorem xTj {g : Bool} {cs : List AV} {vs : List Value} {v : AV} (h : mkv g cs = some v) (hr : Reps im io cs vs) (hk : ∀ c ∈ cs,AV.isCell c = true) :
  (g = true → Rep im io v (.agg vs.toArray)) ∧ (g = false → ∃ x,vs = [x] ∧ Rep im io v x) := by
 unfold mkv at h
 cases g with
 | true =>
  simp at h; subst h
  exact ⟨(fun _ => .agg hr.1 hr.2 hk),(fun e => by cases e)⟩
 | false =>
  simp at h
  split at h
  ·rename_i v0
   cases h
   refine ⟨(fun e => by cases e),fun _ => ?_⟩
   have hl := hr.1
   match vs,hl with
   | [x],_ => exact ⟨x,rfl,hr.2 0 _ x rfl rfl⟩
  ·cases h
theorem xKC {t : TypeId} {n : Nat} {g : Bool} (h1 : xNR P t = some n) (h2 : xOG P t = some g) {b off : Nat} {vs : List Value} (hl : vs.length = n) (hlies : yCD w b off vs) :
  (g = true → (loadVar t ⟨b,off,none⟩).run P w = .ok (.agg vs.toArray) w) ∧ (g = false → ∀ x,vs = [x] → (loadVar t ⟨b,off,none⟩).run P w = .ok x w) := by
 refine ⟨fun hg => ?_,fun hg x hx => ?_⟩
 ·subst hg
  simp only [loadVar,Sem.run_bind,xH8 h2,Result.andThen,if_true,xH7 h1,← hl,xMc hlies,Sem.run_pure]
 ·subst hg
  have hcell : w.cell? ⟨b,off,none⟩ = some x := hlies 0 x (by rw [hx]; rfl)
  simp [loadVar,xH8 h2,Result.andThen,hcell]
theorem xWy {g : Bool} {n : Nat} {p : Arg} (hc : xAI P o (.load g n p) = true) (hs : Sim chk im io H w) (hF : FRep im io F a) (h : xAc R F H (.load g n p) = some (v,H')) : Good chk P o a im io w v H' := by
 simp only [xAI] at hc
 simp only [xAc] at h
 split at hc
 ·rename_i t y ho
  simp only [Bool.and_eq_true,beq_iff_eq] at hc
  obtain ⟨⟨⟨h1,h2⟩,_⟩,h4⟩ := hc
  have r1 := xAj h4 hF
  split at h
  ·rename_i cs hrd
   simp only [Option.map_eq_some_iff,Prod.mk.injEq] at h
   obtain ⟨v',hm,rfl,rfl⟩ := h
   obtain ⟨b,off,vs,hx,hl,hrs,hlies,hk⟩ := xT2 hs hrd r1
   obtain ⟨m1,m2⟩ := xTj hm hrs hk
   obtain ⟨l1,l2⟩ := xKC h1 h2 hl hlies
   cases g with
   | true => exact .same hs (by simp [execOp,ho,Instr.loadAt,hx,Instr.sureAddr,l1 rfl]) (m1 rfl)
   | false =>
    obtain ⟨x,e1,e2⟩ := m2 rfl
    exact .same hs (by simp [execOp,ho,Instr.loadAt,hx,Instr.sureAddr,l2 rfl x e1]) e2
  ·cases h
 ·cases hc
theorem xVz {g : Bool} {off n : Nat} {x : Arg} (hc : xAI P o (.field g off n x) = true) (hs : Sim chk im io H w) (hF : FRep im io F a) (h : xAc R F H (.field g off n x) = some (v,H')) : Good chk P o a im io w v H' := by simp [xAI] at hc
theorem xHB {k : IntKind} {i y : Nat} {code : BoundsCode} (h : i ≤ y) : (Instr.sliceBound (.int k i) y code).run P w = .ok i w := by
 have hb : (0 : Int) ≤ (i : Int) ∧ (i : Int) ≤ (y : Int) := by omega
 simp [Instr.sliceBound,asIntOf,hb]
theorem xJr {x : Option Operand} {y : Option Arg} (h : xLG x y = true) (hF : FRep im io F a) :
  (x = none ∧ y = none) ∨ ∃ x' y',x = some x' ∧ y = some y' ∧ Rep im io (opv F y') (a.eval x') := by
 unfold xLG at h
 split at h
 ·exact .inl ⟨rfl,rfl⟩
 ·exact .inr ⟨_,_,rfl,rfl,xAj h hF⟩
 ·cases h
theorem xJs {lo hi mx : Option Operand} {lo' hi' mx' : Option Arg} (hl : xLG lo lo' = true) (hh : xLG hi hi' = true) (hm : xLG mx mx' = true) (hF : FRep im io F a) {n l h cap : Nat}
  (hb : xGJ n (lo'.map (opv F)) (hi'.map (opv F)) (mx'.map (opv F)) = some (l,h)) (hcap : n ≤ cap) :
  ∃ m,(Instr.sliceBounds true n cap (lo.map a.eval) (hi.map a.eval) (mx.map a.eval)).run P w = .ok (l,h,m) w ∧ l ≤ h ∧ h ≤ n ∧ h ≤ m ∧ m ≤ cap := by
 unfold xGJ at hb
 split at hb
 case h_2 => cases hb
 rename_i h0 l0 e1 e2
 split at hb
 case isFalse => cases hb
 rename_i hle
 have lok : ∀ (y : Nat) (code : BoundsCode) (A B : Nat),l0 ≤ y → (match lo.map a.eval with | some v => (do let l ← Instr.sliceBound v y code; pure (l,A,B)) | none => (do let l ← pure 0; pure (l,A,B)) : Sem (Nat × Nat × Nat)).run P w = .ok (l0,A,B) w := by
  intro y code A B hy
  rcases xJr hl hF with ⟨rfl,rfl⟩ | ⟨x,y',rfl,rfl,r⟩
  ·simp at e2; subst e2; rfl
  ·simp only [Option.map_some] at e2
   obtain ⟨k,hk⟩ := xGc e2 r
   simp only [Option.map_some,hk,Sem.run_bind,xHB hy,Result.andThen,Sem.run_pure]
 rcases xJr hm hF with ⟨rfl,rfl⟩ | ⟨xm,ym,rfl,rfl,rm⟩
 ·simp only [Option.map_none] at hb e1
  simp at hb
  obtain ⟨rfl,rfl⟩ := hb
  refine ⟨cap,?_,hle.1,hle.2,by omega,Nat.le_refl _⟩
  rcases xJr hh hF with ⟨rfl,rfl⟩ | ⟨x,y',rfl,rfl,r⟩
  ·simp at e1; subst e1
   have := lok n .sliceB n cap hle.1
   simp only [Instr.sliceBounds,Option.map_none,Sem.run_bind,Sem.run_pure,Result.andThen,Option.isSome_none,Bool.false_eq_true,if_false]
   exact this
  ·simp only [Option.map_some] at e1
   obtain ⟨k,hk⟩ := xGc e1 r
   have := lok h0 .sliceB h0 cap hle.1
   have hb2 := xHB (P := P) (w := w) (k := k) (i := h0) (y := cap) (code := .sliceAcap) (by omega)
   simp only [Instr.sliceBounds,Option.map_none,Option.map_some,Sem.run_bind,Sem.run_pure,Result.andThen,hk,if_true,hb2,Option.isSome_none,Bool.false_eq_true,if_false]
   exact this
 ·simp only [Option.map_some] at hb e1
  split at hb
  case h_2 => cases hb
  rename_i m0 em
  split at hb
  case isFalse => cases hb
  rename_i hmm
  simp at hb
  obtain ⟨rfl,rfl⟩ := hb
  obtain ⟨km,hkm⟩ := xGc em rm
  refine ⟨m0,?_,hle.1,hle.2,hmm.1,by omega⟩
  rcases xJr hh hF with ⟨rfl,rfl⟩ | ⟨x,y',rfl,rfl,r⟩
  ·simp at e1
  ·simp only [Option.map_some] at e1
   obtain ⟨k,hk⟩ := xGc e1 r
   have := lok h0 .slice3C h0 m0 hle.1
   have hb1 := xHB (P := P) (w := w) (k := km) (i := m0) (y := cap) (code := .slice3Acap) (by omega)
   have hb2 := xHB (P := P) (w := w) (k := k) (i := h0) (y := m0) (code := .slice3B) hmm.1
   simp only [Instr.sliceBounds,Option.map_some,Sem.run_bind,Sem.run_pure,Result.andThen,hk,hkm,if_true,hb1,hb2,Option.isSome_some]
   exact this
theorem xTk {x : Arg} {lo hi : Option Arg} (hc : xAI P o (.sslice x lo hi) = true) (hs : Sim chk im io H w) (hF : FRep im io F a) (h : xAc R F H (.sslice x lo hi) = some (v,H')) : Good chk P o a im io w v H' := by
 simp only [xAI] at hc
 simp only [xAc] at h
 split at hc
 case h_2 => cases hc
 rename_i t x' lo' hi' ho
 simp only [Bool.and_eq_true] at hc
 obtain ⟨⟨⟨hu,h2⟩,h3⟩,h4⟩ := hc
 have hu := xNP hu
 have r1 := xAj h2 hF
 split at h
 case h_2 => cases h
 rename_i s e1
 simp only [Option.map_eq_some_iff,Prod.mk.injEq] at h
 obtain ⟨⟨l,hh⟩,hb,rfl,rfl⟩ := h
 rw [e1] at r1
 generalize hv : a.eval x' = cv at r1
 cases r1
 have key : (Instr.sliceBounds false s.size s.size (lo'.map a.eval) (hi'.map a.eval) none).run P w = .ok (l,hh,s.size) w := by
  unfold xGJ at hb
  split at hb
  case h_2 => cases hb
  rename_i h0 l0 q1 q2
  split at hb
  case isFalse => cases hb
  rename_i hle
  simp only [Option.some.injEq,Prod.mk.injEq] at hb
  obtain ⟨rfl,rfl⟩ := hb
  have lok : ∀ (y : Nat) (code : BoundsCode) (A B : Nat),l0 ≤ y → (match lo'.map a.eval with | some v => (do let l ← Instr.sliceBound v y code; pure (l,A,B)) | none => (do let l ← pure 0; pure (l,A,B)) : Sem (Nat × Nat × Nat)).run P w = .ok (l0,A,B) w := by
   intro y code A B hy
   rcases xJr h3 hF with ⟨rfl,rfl⟩ | ⟨x,y',rfl,rfl,r⟩
   ·simp at q2; subst q2; rfl
   ·simp only [Option.map_some] at q2
    obtain ⟨k,hk⟩ := xGc q2 r
    simp only [Option.map_some,hk,Sem.run_bind,xHB hy,Result.andThen,Sem.run_pure]
  rcases xJr h4 hF with ⟨rfl,rfl⟩ | ⟨x,y',rfl,rfl,r⟩
  ·simp at q1; subst q1
   have := lok s.size .sliceB s.size s.size hle.1
   simp only [Instr.sliceBounds,Option.map_none,Sem.run_bind,Sem.run_pure,Result.andThen,Option.isSome_none,Bool.false_eq_true,if_false]
   exact this
  ·simp only [Option.map_some] at q1
   obtain ⟨k,hk⟩ := xGc q1 r
   have := lok h0 .sliceB h0 s.size hle.1
   have hb2 := xHB (P := P) (w := w) (k := k) (i := h0) (y := s.size) (code := .sliceAlen) (by omega)
   simp only [Instr.sliceBounds,Option.map_none,Option.map_some,Sem.run_bind,Sem.run_pure,Result.andThen,hk,hb2,Option.isSome_none,Bool.false_eq_true,if_false]
   exact this
 refine .same hs (x := .string (s.extract l hh)) ?_ .str
 simp [execOp,ho,hv,Instr.sliceAt,Instr.slice,run_underlying hu,key]
theorem xVA {es : Nat} {x : Arg} {lo hi mx : Option Arg} (hc : xAI P o (.slice es x lo hi mx) = true) (hs : Sim chk im io H w) (hF : FRep im io F a) (h : xAc R F H (.slice es x lo hi mx) = some (v,H')) : Good chk P o a im io w v H' := by
 simp only [xAI] at hc
 simp only [xAc] at h
 split at hc
 case h_2 => cases hc
 rename_i t x' lo' hi' mx' ho
 split at hc
 case h_2 => cases hc
 rename_i e he
 simp only [Bool.and_eq_true,beq_iff_eq] at hc
 obtain ⟨⟨⟨⟨h1,h2⟩,h3⟩,h4⟩,h5⟩ := hc
 have hu := xGN he
 have hsz := xH7 h1
 have r1 := xAj h2 hF
 have run : ∀ ad n cap l hh m,a.eval x' = .slice ad n cap → (Instr.sliceBounds true n cap (lo'.map a.eval) (hi'.map a.eval) (mx'.map a.eval)).run P w = .ok (l,hh,m) w →
   (execOp a.eval o).run P w = .ok (.value (.slice (if m = l then ad else ad.map (·.add (l * es))) (hh - l) (m - l))) w := fun ad n cap l hh m hv hb => by
  simp [execOp,ho,hv,Instr.sliceAt,Instr.slice,run_underlying hu,hb,hsz]
 split at h
 ·rename_i z n cs e1
  split at h
  case isFalse => cases h
  rename_i hlen
  simp only [Option.map_eq_some_iff] at h
  obtain ⟨⟨l,hh⟩,hb,h⟩ := h
  simp only [Prod.mk.injEq] at h
  obtain ⟨rfl,rfl⟩ := h
  rw [e1] at r1
  generalize hv : a.eval x' = cv at r1 run
  cases r1 with
  | slz =>
   obtain ⟨m,q1,q2,q3,q4,q5⟩ := xJs (P := P) (w := w) h3 h4 h5 hF hb (Nat.le_refl 0)
   have e0 : l = 0 := by omega
   have e1' : hh = 0 := by omega
   have e2' : m = 0 := by omega
   subst e0; subst e1'; subst e2'
   refine .same hs (run _ _ _ _ _ _ rfl q1) ?_
   simpa using Rep.slz
  | sl0 =>
   rename_i ad cap
   obtain ⟨m,q1,q2,q3,q4,q5⟩ := xJs (P := P) (w := w) h3 h4 h5 hF hb (Nat.zero_le cap)
   have e0 : l = 0 := by omega
   have e1' : hh = 0 := by omega
   subst e0; subst e1'
   refine .same hs (run _ _ _ _ _ _ rfl q1) ?_
   have : (if m = 0 then some ad else (some ad).map (·.add (0 * es))) = some ad := by split <;> simp [Addr.add]
   rw [this]
   simpa using Rep.sl0
  | sl hr hl hcap hcc hk =>
   rename_i b o' cap vs
   obtain ⟨m,q1,q2,q3,q4,q5⟩ := xJs (P := P) (w := w) h3 h4 h5 hF hb hcap
   refine .same hs (run _ _ _ _ _ _ rfl q1) ?_
   by_cases hm : m = l
   ·have e0 : hh - l = 0 := by omega
    rw [if_pos hm,e0]
    simpa using Rep.sl0
   ·rw [if_neg hm]
    obtain ⟨c,tt,fr,g1,g2⟩ := hr
    have hrs : Reps im xKI cs vs := ⟨hl,hcc⟩
    have hrs2 := (hrs.drop (l * es)).take ((hh - l) * es)
    simp only [Option.map_some,Addr.add_lit]
    refine .sl (vs := (vs.drop (l * es)).take ((hh - l) * es)) ⟨c,tt,fr,g1,fun i y hy => ?_⟩ hrs2.1 (by omega) hrs2.2 (fun c hcm => hk c (List.mem_of_mem_drop (List.mem_of_mem_take hcm)))
    by_cases hi : i < (hh - l) * es
    ·rw [List.getElem?_take_of_lt hi,List.getElem?_drop] at hy
     have := g2 _ y hy
     rw [show o' + l * es + i = o' + (l * es + i) by omega]; exact this
    ·rw [List.getElem?_take_eq_none (by omega)] at hy; cases hy
 ·rename_i z id off n es' e1
  split at h
  case isFalse => cases h
  rename_i hes
  subst hes
  simp only [Option.map_eq_some_iff] at h
  obtain ⟨⟨l,hh⟩,hb,h⟩ := h
  simp only [Prod.mk.injEq] at h
  obtain ⟨rfl,rfl⟩ := h
  rw [e1] at r1
  generalize hv : a.eval x' = cv at r1 run
  cases r1 with
  | ownz =>
   obtain ⟨m,q1,q2,q3,q4,q5⟩ := xJs (P := P) (w := w) h3 h4 h5 hF hb (Nat.le_refl 0)
   have e0 : l = 0 := by omega
   have e1' : hh = 0 := by omega
   have e2' : m = 0 := by omega
   subst e0; subst e1'; subst e2'
   refine .same hs (run _ _ _ _ _ _ rfl q1) ?_
   simpa using Rep.ownz
  | own0 hoff =>
   rename_i ad cap
   obtain ⟨m,q1,q2,q3,q4,q5⟩ := xJs (P := P) (w := w) h3 h4 h5 hF hb (Nat.zero_le cap)
   have e0 : l = 0 := by omega
   have e1' : hh = 0 := by omega
   subst e0; subst e1'
   refine .same hs (run _ _ _ _ _ _ rfl q1) ?_
   have : (if m = 0 then some ad else (some ad).map (·.add (0 * es'))) = some ad := by split <;> simp [Addr.add]
   rw [this]
   simpa using Rep.own0 hoff
  | own hio hcap hszz =>
   rename_i b sz cap
   obtain ⟨m,q1,q2,q3,q4,q5⟩ := xJs (P := P) (w := w) h3 h4 h5 hF hb hcap
   refine .same hs (run _ _ _ _ _ _ rfl q1) ?_
   by_cases hm : m = l
   ·have e0 : hh - l = 0 := by omega
    rw [if_pos hm,e0]
    by_cases hz : l * es' = 0
    ·rw [hz]
     refine .own hio (Nat.zero_le _) ?_
     have : m - l = 0 := by omega
     rw [this]
     have := Nat.zero_le (cap * es')
     omega
    ·exact .own0 (by omega)
   ·rw [if_neg hm]
    simp only [Option.map_some,Addr.add_lit]
    refine .own hio (by omega) ?_
    have g1 : l * es' + (m - l) * es' = m * es' := by rw [← Nat.add_mul]; congr 1; omega
    have g2 : m * es' ≤ cap * es' := Nat.mul_le_mul_right _ q5
    omega
 ·cases h
end
end Go.Abs
