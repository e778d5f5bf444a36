/- What comes in. -/
import Derived.Test.YtdkbhidfiplncaaAMB
import Derived.Test.YtdkbhidfiplncaaAFit
import Derived.Test.YtdkbhidfiplncaaAbsIn
namespace Go.Abs.Det
open Go Go.Abs
set_option linter.unusedSimpArgs false
set_option linter.unusedVariables false

abbrev yCB : TS := ⟨true,[.int .i64,.int .i64,.sl [.int .i64],.sl [.int .i64],.sl [.int .i64,.int .i64,.int .i64,.int .u8,.int .u8]]⟩
theorem xM7 : ∀ (cs : List AV),(∀ x ∈ cs,Fit (.int .i64) x) → ∃ l : List Int,cs = ints l
  | [],_ => ⟨[],rfl⟩
  | a :: cs,h => by
    obtain ⟨n,rfl,_⟩ := xGw (h a (by simp))
    obtain ⟨l,rfl⟩ := xM7 cs (fun x hx => h x (by simp [hx]))
    exact ⟨n :: l,rfl⟩

theorem xVL {a : AV} (h : Fit (.sl [.int .i64]) a) : ∃ z l,a = iw z l ∧ (z = true → l = []) := by
  obtain ⟨z,cs,rfl,hz,hl,hf⟩ := xSw h
  obtain ⟨l,rfl⟩ := xM7 cs hf
  exact ⟨z,l,by rw [xAa],fun e => List.map_eq_nil_iff.1 (hz e)⟩

theorem xSu : ∀ (rs : List (List AV)),(∀ r ∈ rs,r.length = 5) → (∀ r ∈ rs,∀ (i : Nat) (c : CS) (a : AV),([.int .i64,.int .i64,.int .i64,.int .u8,.int .u8] : List CS)[i]? = some c → r[i]? = some a → Fit c a) →
    ∃ l : List Rl,rs.flatten = rls l ∧ l.length = rs.length ∧ ∀ e ∈ l,e.p < 256 ∧ e.n < 256
  | [],_,_ => ⟨[],rfl,rfl,by simp⟩
  | r :: rs,hl,hf => by
    obtain ⟨l,h1,h2,h3⟩ := xSu rs (fun r hr => hl r (by simp [hr])) (fun r hr => hf r (by simp [hr]))
    have hr := hl r (by simp)
    match r,hr with
    | [x0,x1,x2,x3,x4],_ =>
      have hfr := hf [x0,x1,x2,x3,x4] (by simp)
      obtain ⟨a,rfl,_⟩ := xGw (hfr 0 _ _ rfl rfl)
      obtain ⟨b,rfl,_⟩ := xGw (hfr 1 _ _ rfl rfl)
      obtain ⟨c,rfl,_⟩ := xGw (hfr 2 _ _ rfl rfl)
      obtain ⟨p,rfl,hp⟩ := xSv (hfr 3 _ _ rfl rfl)
      obtain ⟨n,rfl,hn⟩ := xSv (hfr 4 _ _ rfl rfl)
      refine ⟨⟨a,b,c,p,n⟩ :: l,?_,by simp [h2],?_⟩
      · rw [List.flatten_cons,h1]; rfl
      · intro e he
        rcases List.mem_cons.1 he with rfl | he
        · exact ⟨hp,hn⟩
        · exact h3 e he

theorem xXJ {a : AV} (h : Fit (.sl [.int .i64,.int .i64,.int .i64,.int .u8,.int .u8]) a) : ∃ z l,a = .sl z l.length (rls l) ∧ ∀ e ∈ l,e.p < 256 ∧ e.n < 256 := by
  cases h with
  | nil => exact ⟨true,[],rfl,by simp⟩
  | @sl _ rs hn hl hr =>
    obtain ⟨l,h1,h2,h3⟩ := xSu rs hl hr
    exact ⟨false,l,by rw [h1,h2],h3⟩

theorem xXK {a : AV} (h : xSz yCB a) : ∃ n : Aut,a = n.av ∧ ∀ e ∈ n.rl,e.p < 256 ∧ e.n < 256 := by
  obtain ⟨cs,rfl,h'⟩ := xSx h
  obtain ⟨a1,cs,rfl,h1,h'⟩ := xEm h'
  obtain ⟨a2,cs,rfl,h2,h'⟩ := xEm h'
  obtain ⟨a9993,cs,rfl,h3,h'⟩ := xEm h'
  obtain ⟨a9994,cs,rfl,h4,h'⟩ := xEm h'
  obtain ⟨a9995,cs,rfl,h5,h'⟩ := xEm h'
  obtain rfl := xP2 h'
  obtain ⟨v,rfl,_⟩ := xGw h1
  obtain ⟨s,rfl,_⟩ := xGw h2
  obtain ⟨z1,st,rfl,_⟩ := xVL h3
  obtain ⟨z2,fi,rfl,_⟩ := xVL h4
  obtain ⟨z3,rl,rfl,hb⟩ := xXJ h5
  exact ⟨⟨v,s,z1,st,z2,fi,z3,rl⟩,rfl,hb⟩

end Go.Abs.Det
