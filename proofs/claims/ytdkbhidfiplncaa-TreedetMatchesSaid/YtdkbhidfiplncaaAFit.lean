/- What comes in. -/
import Derived.Test.YtdkbhidfiplncaaAMB
import Derived.Test.YtdkbhidfiplncaaAbsIn
namespace Go.Abs.Det
open Go Go.Abs
set_option linter.unusedSimpArgs false
set_option linter.unusedVariables false
abbrev yIj : TS := ⟨true,[.int .i64,.int .i64,.sl [.sl [.sl [.int .i64]]],.sl [.bool]]⟩
abbrev TTr : TS := ⟨false,[.sl [.int .u8,.int .i64,.int .i64]]⟩
theorem xIV {α : Type} {f : α → AV} : ∀ (cs : List AV),(∀ x ∈ cs,∃ a,x = f a) → ∃ l : List α,cs = l.map f
 | [],_ => ⟨[],rfl⟩
 | c :: cs,h => by
  obtain ⟨a,rfl⟩ := h c (by simp)
  obtain ⟨l,rfl⟩ := xIV cs (fun x hx => h x (by simp [hx]))
  exact ⟨a :: l,rfl⟩
theorem yGu {a : AV} (h : Fit (.sl [.int .i64]) a) : ∃ r,a = rwV r := by
 obtain ⟨z,cs,rfl,_,_,hf⟩ := xMn h
 obtain ⟨l,rfl⟩ := xIV (f := fun n : Int => AV.int .i64 n) cs (fun x hx => by obtain ⟨n,rfl,_⟩ := xIW (hf x hx); exact ⟨n,rfl⟩)
 exact ⟨⟨z,l⟩,by simp [rwV,ints]⟩
theorem yED {a : AV} (h : Fit (.sl [.sl [.int .i64]]) a) : ∃ r,a = rwsV r := by
 obtain ⟨z,cs,rfl,_,_,hf⟩ := xMn h
 obtain ⟨l,rfl⟩ := xIV (f := rwV) cs (fun x hx => yGu (hf x hx))
 exact ⟨⟨z,l⟩,by simp [rwsV]⟩
theorem yEE {a : AV} (h : xYA yIj a) : ∃ d : Dfa,a = d.av := by
 obtain ⟨cs,rfl,h'⟩ := xYy h
 obtain ⟨a1,cs,rfl,h1,h'⟩ := xDd h'
 obtain ⟨a2,cs,rfl,h2,h'⟩ := xDd h'
 obtain ⟨a3,cs,rfl,h3,h'⟩ := xDd h'
 obtain ⟨a4,cs,rfl,h4,h'⟩ := xDd h'
 obtain rfl := xVe h'
 obtain ⟨v,rfl,_⟩ := xIW h1
 obtain ⟨s,rfl,_⟩ := xIW h2
 obtain ⟨z,c3,rfl,_,_,hf⟩ := xMn h3
 obtain ⟨nx,rfl⟩ := xIV (f := rwsV) c3 (fun x hx => yED (hf x hx))
 obtain ⟨zf,c4,rfl,_,_,hb⟩ := xMn h4
 obtain ⟨fi,rfl⟩ := xIV (f := AV.bool) c4 (fun x hx => yBl (hb x hx))
 exact ⟨⟨v,s,z,nx,zf,fi⟩,by simp [Dfa.av,Dfa.cells,bools]⟩
theorem xYx : ∀ (rs : List (List AV)),(∀ r ∈ rs,r.length = 3) → (∀ r ∈ rs,∀ (i : Nat) (c : CS) (a : AV),([.int .u8,.int .i64,.int .i64] : List CS)[i]? = some c → r[i]? = some a → Fit c a) →
  ∃ l : List Lf,rs.flatten = lfs l ∧ l.length = rs.length ∧ ∀ e ∈ l,e.x < 256
 | [],_,_ => ⟨[],rfl,rfl,by simp⟩
 | r :: rs,hl,hf => by
  obtain ⟨l,h1,h2,h3⟩ := xYx rs (fun r hr => hl r (by simp [hr])) (fun r hr => hf r (by simp [hr]))
  have hr := hl r (by simp)
  match r,hr with
  | [x0,x1,x2],_ =>
   have hfr := hf [x0,x1,x2] (by simp)
   obtain ⟨p,rfl,hp⟩ := yGv (hfr 0 _ _ rfl rfl)
   obtain ⟨a,rfl,_⟩ := xIW (hfr 1 _ _ rfl rfl)
   obtain ⟨b,rfl,_⟩ := xIW (hfr 2 _ _ rfl rfl)
   refine ⟨⟨p,a,b⟩ :: l,?_,by simp [h2],?_⟩
   ·rw [List.flatten_cons,h1]; rfl
   ·intro e he
    rcases List.mem_cons.1 he with rfl | he
    ·exact hp
    ·exact h3 e he
theorem yBk {a : AV} (h : Fit (.sl [.int .u8,.int .i64,.int .i64]) a) : ∃ z l,a = tw z l ∧ ∀ e ∈ l,e.x < 256 := by
 cases h with
 | nil => exact ⟨true,[],rfl,by simp⟩
 | @sl _ rs hn hl hr =>
  obtain ⟨l,h1,h2,h3⟩ := xYx rs hl hr
  exact ⟨false,l,by unfold tw; rw [h1,h2],h3⟩
end Go.Abs.Det
